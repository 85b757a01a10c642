/- Lemmas for the proof: no conditions. -/
import Derived.Test.YtnfpmiiopiinbaaGreatDoorRipZz
import Derived.Test.YtnfpmiiopiinbaaGreatDoorRipYe
set_option linter.unusedVariables false
set_option linter.unusedSimpArgs false
set_option linter.loopingSimpArgs false
namespace Go.Rip
theorem Tre.P9:∀ ts:List Tre,Tre.P8 ts=ts.map fun t=>(t.kind,t.pr)
 | []=>by rw [Tre.P8]; rfl
 | t::ts=>by rw [Tre.P8,Tre.P9 ts]; rfl
theorem Tre.fi (k:Int) (x:aK) (n m a:Int) (ks:List Tre):(Tre.mk k x n m a ks).pr=bw k x n m (ks.map fun t=>(t.kind,t.pr)):=by rw [Tre.pr,Tre.P9]
theorem Tre.nE (k:Int) (x:aK) (n m a:Int) (ks:List Tre):(Tre.mk k x n m a ks).flat=node k x n m a (Tre.bG ks):=by rw [Tre.flat]
theorem Tre.Lr:∀ {ts:List Tre},Tre.sW ts=true->∀ t ∈ ts,t.ok=true
 | [],_,t,h=>by cases h
 | t::ts,h,u,hu=>by
   rw [Tre.sr,bX] at h
   rcases cD.1 hu with rfl | hu
   . exact h.1
   . exact Tre.Lr h.2 u hu
theorem Tre.rC {k:Int} {x:aK} {n m a:Int} {ks:List Tre} (h:(Tre.mk k x n m a ks).ok=true):∃ f,bC k=some f/\ee ⟨k,x,n,m,a,0⟩ f=true/\dQ (ks.map Tre.kind) f.kids=true/\∀ t ∈ ks,t.ok=true:=by
 rw [Tre.ok,bX] at h
 obtain ⟨h1,h2⟩:=h
 split at h1
 . rename_i f hf
   rw [bX] at h1
   exact ⟨f,hf,h1.1,h1.2,Tre.Lr h2⟩
 . cases h1
theorem Tre.uu {ks:List Tre} {t:Tre} (h:t ∈ ks):t.flat.length <= (Tre.bG ks).length:=by
 obtain ⟨a,b,rfl⟩:=List.append_of_mem h
 rw [Tre.gM,Tre.cS]; simp; omega
theorem Tre.Qa (ks:List Tre) (f:Tre->List Tx):Pt.all (ks.map fun t=>(f t,t.flat))=Tre.bG ks:=by
 induction ks with
 | nil=>rfl
 | cons t ks ih =>
   rw [Tre.cS,<- ih]
   simp [Pt.all]
theorem mM {c:iK} {ks:List Tre} (h:dQ (ks.map Tre.kind) [⟨c,1,1⟩]=true):∃ a,ks=[a]/\c.is a.kind=true:=by
 rw [Av] at h
 match ks,h with
 | [],h=>simp at h
 | [a],h=>exact ⟨a,rfl,by simpa using h⟩
 | a::b::r,h=>simp at h
theorem xN {c:iK} {ks:List Tre} (h:dQ (ks.map Tre.kind) [⟨c,2,2⟩]=true):∃ a b,ks=[a,b]/\c.is a.kind=true/\c.is b.kind=true:=by
 rw [Av] at h
 match ks,h with
 | [],h=>simp at h
 | [a],h=>simp at h
 | [a,b],h=>exact ⟨a,b,rfl,by simpa using h⟩
 | a::b::c::r,h=>simp at h
theorem Ww {c:iK} {ks:List Tre} (h:dQ (ks.map Tre.kind) [⟨c,3,3⟩]=true):∃ a b d,ks=[a,b,d]/\c.is a.kind=true/\c.is b.kind=true/\c.is d.kind=true:=by
 rw [Av] at h
 match ks,h with
 | [],h=>simp at h
 | [a],h=>simp at h
 | [a,b],h=>simp at h
 | [a,b,d],h=>exact ⟨a,b,d,rfl,by simpa using h⟩
 | a::b::c::d::r,h=>simp at h
theorem AA {c:iK} {lo hi:Nat} {ks:List Tre} (h:dQ (ks.map Tre.kind) [⟨c,lo,hi⟩]=true):lo <= ks.length/\∀ t ∈ ks,c.is t.kind=true:=by
 rw [Av] at h
 simp only [bX,dS,List.length_map,fl,List.mem_map,forall_exists_index,and_imp,forall_apply_eq_imp_iff₂] at h
 exact ⟨h.1.1,h.2⟩
theorem mq {α:Type}:∀ {l:List α},1 <= l.length->∃ r x,l=r++[x]:=fun {l} h=>⟨l.dropLast,l.getLast (by intro e; subst e; simp at h),(List.dropLast_concat_getLast _).symm⟩
theorem C5 {c d:iK} {lo:Nat} {ks:List Tre} (hl:ks.length <= 901) (h:dQ (ks.map Tre.kind) [⟨c,lo,900⟩,⟨d,1,1⟩]=true):∃ ps b,ks=ps++[b]/\lo <= ps.length/\(∀ t ∈ ps,c.is t.kind=true)/\d.is b.kind=true:=by
 have:=A9 ⟨c,lo,900⟩ [d] (ks.map Tre.kind) (by simpa using hl)
 rw [show (⟨c,lo,900⟩::[d].map fun c=>(⟨c,1,1⟩:lh))=[⟨c,lo,900⟩,⟨d,1,1⟩] from rfl] at this
 rw [this] at h
 simp only [bX,dS,List.length_map,gU,lB] at h
 obtain ⟨h1,h2,h3⟩:=h
 obtain ⟨ps,b,rfl⟩:=mq (l:=ks) (by omega)
 simp only [df,gU,lB,cU,Nat.add_sub_cancel,List.map_append] at h1 h2 h3
 rw [List.take_left' (by simp)] at h2
 rw [List.drop_left' (by simp)] at h3
 have h3:dQ ([b].map Tre.kind) [⟨d,1,1⟩]=true:=h3
 obtain ⟨b',e,h3⟩:=mM h3
 obtain rfl:b=b':=by simpa using e
 exact ⟨ps,b,rfl,by omega,by simpa using h2,h3⟩
theorem Lf {c d:iK} {ks:List Tre} (h:dQ (ks.map Tre.kind) [⟨c,1,1⟩,⟨d,1,1⟩]=true):∃ a b,ks=[a,b]/\c.is a.kind=true/\d.is b.kind=true:=by
 have hl:=om [c,d] _ h
 match ks,hl with
 | [a,b],_ =>
   have:=wk c [d] a.kind [b.kind] rfl
   have h:dQ (a.kind::[b.kind]) (⟨c,1,1⟩::[d].map fun c=>⟨c,1,1⟩)=true:=h
   rw [this,bX] at h
   obtain ⟨b',e,h3⟩:=mM (ks:=[b]) (c:=d) h.2
   obtain rfl:b=b':=by simpa using e
   exact ⟨a,b,rfl,h.1,h3⟩
theorem Lg {c d e:iK} {ks:List Tre} (h:dQ (ks.map Tre.kind) [⟨c,1,1⟩,⟨d,1,1⟩,⟨e,1,1⟩]=true):∃ a b g,ks=[a,b,g]/\c.is a.kind=true/\d.is b.kind=true/\e.is g.kind=true:=by
 have hl:=om [c,d,e] _ h
 match ks,hl with
 | [a,b,g],_ =>
   have:=wk c [d,e] a.kind [b.kind,g.kind] rfl
   have h:dQ (a.kind::[b.kind,g.kind]) (⟨c,1,1⟩::[d,e].map fun c=>⟨c,1,1⟩)=true:=h
   rw [this,bX] at h
   obtain ⟨b',g',e',h3,h4⟩:=Lf (ks:=[b,g]) (c:=d) (d:=e) h.2
   simp only [List.cons.injEq,and_true] at e'
   obtain ⟨rfl,rfl⟩:=e'
   exact ⟨a,b,g,rfl,h.1,h3,h4⟩
theorem xO {c d e:iK} {lo:Nat} {ks:List Tre} (hl:ks.length <= 902) (h:dQ (ks.map Tre.kind) [⟨c,lo,900⟩,⟨d,1,1⟩,⟨e,1,1⟩]=true):∃ ps a b,ks=ps++[a,b]/\lo <= ps.length/\(∀ t ∈ ps,c.is t.kind=true)/\d.is a.kind=true/\e.is b.kind=true:=by
 have:=A9 ⟨c,lo,900⟩ [d,e] (ks.map Tre.kind) (by simpa using hl)
 rw [show (⟨c,lo,900⟩::[d,e].map fun c=>(⟨c,1,1⟩:lh))=[⟨c,lo,900⟩,⟨d,1,1⟩,⟨e,1,1⟩] from rfl] at this
 rw [this] at h
 simp only [bX,dS,List.length_map,gU,lB] at h
 obtain ⟨h1,h2,h3⟩:=h
 obtain ⟨qs,b,rfl⟩:=mq (l:=ks) (by omega)
 obtain ⟨ps,a,rfl⟩:=mq (l:=qs) (by simp at h1; omega)
 have e2:(ps++[a]++[b]).length - (0+1+1)=ps.length:=by simp
 rw [e2] at h2 h3
 simp only [List.map_append,gn] at h2 h3
 rw [List.take_left' (by simp)] at h2
 rw [List.drop_left' (by simp)] at h3
 have h3:dQ ([a,b].map Tre.kind) [⟨d,1,1⟩,⟨e,1,1⟩]=true:=h3
 obtain ⟨a',b',e',h3,h4⟩:=Lf h3
 simp only [List.cons.injEq,and_true] at e'
 obtain ⟨rfl,rfl⟩:=e'
 exact ⟨ps,a,b,by simp,by simp at h1; omega,by simpa using h2,h3,h4⟩
theorem iq {k:Int} {x:aK} {n m a z:Int} {f:gd} (h:ee ⟨k,x,n,m,a,z⟩ f=true):(f.text=false->x=[])/\(f.text=true->x ≠ []/\kI x=true)/\dH n=true/\dH m=true/\(f.n=false->n=0)/\(f.m=false->m=0):=by
 simp only [ee,bX,jM,beq_iff_eq] at h
 obtain ⟨⟨⟨⟨⟨h1,h2⟩,h3⟩,h4⟩,h5⟩,h6⟩:=h
 refine ⟨fun e=>?_,fun e=>⟨?_,?_⟩,h3,h4,fun e=>?_,fun e=>?_⟩
 . rw [e] at h1; simpa using h1.symm
 . rw [e] at h1; simpa using h1.symm
 . rw [e] at h2; simpa using h2
 . rw [e] at h5; simpa using h5
 . rw [e] at h6; simpa using h6
end Go.Rip
namespace Go.Rip
section
variable {L:List Tk} {E:Nat}
theorem y6 {t:Tre} (ho:t.ok=true) (hk:oD t.kind=true):jQ L (fun i=>fX L E i) t.pr t.flat/\∀ f,jQ L (fun i=>jD L E f i) t.pr t.flat:=by
 cases t with
 | mk k x n m a ks =>
   have oT:k=6\/k=7:=of_decide_eq_true hk
   obtain ⟨f,hf,h1,h2,_⟩:=Tre.rC ho
   have km:f=⟨false,true,false,[]⟩:=by rcases oT with rfl | rfl <;> simpa [bC] using hf.symm
   subst km
   obtain ⟨e1,_,hn,_,_,e2⟩:=iq h1
   have e1:=e1 rfl
   have e2:=e2 rfl
   have iC:ks=[]:=by
    have:(ks.map Tre.kind).isEmpty=true:=h2
    simpa using this
   subst e1 e2 iC
   have hp:(Tre.mk k [] n 0 a []).pr=Am k n:=by
    rw [Tre.fi]
    rcases oT with rfl | rfl <;> simp [bw,Am]
   rw [hp,Tre.nE,Tre.o9]
   exact ⟨Kv oT hn,fun f=>Px oT hn⟩
theorem Gi {t:Tre} (ho:t.ok=true) (hk:pC t.kind=true) {f:Nat} (hf:L.length < f):jQ L (fun i=>jD L E f i) t.pr t.flat:=by
 by_cases hb:oD t.kind=true
 . exact (y6 ho hb).2 f
 cases t with
 | mk k x n m a ks =>
   have hk:k=8:=by
    have h1:k=6\/k=7\/k=8:=of_decide_eq_true hk
    have h2:¬ (k=6\/k=7):=fun e=>hb (decide_eq_true e)
    omega
   subst hk
   obtain ⟨fo,ep,h1,h2,h3⟩:=Tre.rC ho
   obtain rfl:(⟨false,false,false,[⟨.base,2,900⟩]⟩:gd)=fo:=by simpa [bC] using ep
   obtain ⟨e1,_,_,_,e2,e3⟩:=iq h1
   have e1:=e1 rfl
   have e2:=e2 rfl
   have e3:=e3 rfl
   subst e1 e2 e3
   obtain ⟨hl,hb⟩:=AA h2
   obtain ⟨ps,b,rfl⟩:=mq (l:=ks) (by omega)
   have tA:1 <= ps.length:=by simp at hl; omega
   obtain ⟨p,ps,rfl⟩:∃ p q,ps=p::q:=by
    cases ps with
    | nil=>simp at tA
    | cons p q=>exact ⟨p,q,rfl⟩
   have cm:∀ t ∈ p::ps++[b],jQ L (fun i=>fX L E i) t.pr t.flat:=fun t ht=>(y6 (h3 t ht) (hb t ht)).1
   have key:=MS (L:=L) (E:=E) (a:=a) (p:=(p.pr,p.flat)) (P:=ps.map fun t=>(t.pr,t.flat)) hf (fun q hq=>by
    have hq:q ∈ (p::ps).map fun t=>(t.pr,t.flat):=hq
    obtain ⟨t,ht,rfl⟩:=List.mem_map.1 hq
    exact cm t (List.mem_append_left _ ht)) (cm b (by simp))
   have hp:(Tre.mk 8 [] 0 0 a (p::ps++[b])).pr=aC cP::(dz cV (((p.pr,p.flat)::ps.map fun t=>(t.pr,t.flat)).map Prod.fst)++aC cC::aC fO::b.pr):=by
    rw [Tre.fi]
    have e:(p::ps++[b]).map (fun t=>(t.kind,t.pr))=((p::ps).map fun t=>(t.kind,t.pr))++[(b.kind,b.pr)]:=by simp
    rw [e]
    generalize hq:(p::ps).map (fun t=>(t.kind,t.pr))=q
    have e2:(p.pr,p.flat)::ps.map (fun t=>(t.pr,t.flat))=(p::ps).map fun t=>(t.pr,t.flat):=rfl
    rw [e2,List.map_map]
    have e3:(p::ps).map (Prod.fst ∘ fun t=>(t.pr,t.flat))=q.map (·.2):=by rw [<- hq,List.map_map]; rfl
    rw [e3]
    simp [bw,pT]
   have e2:(p.pr,p.flat)::ps.map (fun t=>(t.pr,t.flat))=(p::ps).map fun t=>(t.pr,t.flat):=rfl
   rw [e2,Tre.Qa] at key
   rw [hp,Tre.nE,Tre.gM,e2]
   simpa using key
theorem Ni {t:Tre} (ho:t.ok=true) (hk:t.kind=5) {f:Nat} (hf:L.length < f):jQ L (fun i=>j9 L E f i) t.pr t.flat/\∃ c r,t.pr=eF c::r:=by
 cases t with
 | mk k x n m a ks =>
   obtain rfl:k=5:=hk
   obtain ⟨fo,ep,h1,h2,h3⟩:=Tre.rC ho
   obtain rfl:(⟨true,false,false,[⟨.type,1,1⟩]⟩:gd)=fo:=by simpa [bC] using ep
   obtain ⟨_,_,_,_,e2,e3⟩:=iq h1
   have e2:=e2 rfl
   have e3:=e3 rfl
   subst e2 e3
   obtain ⟨b,rfl,hb⟩:=mM h2
   have hp:(Tre.mk 5 x 0 0 a [b]).pr=eF x::aC ez::b.pr:=by rw [Tre.fi]; simp [bw]
   rw [hp,Tre.nE]
   exact ⟨by simpa using UC (a:=a) (x:=x) (Gi (h3 b (by simp)) hb hf),_,_,rfl⟩
theorem EM {t:Tre} (ho:t.ok=true) (hk:t.kind=37):jQ L (fun i=>lX L E i) t.pr t.flat:=by
 cases t with
 | mk k x n m a ks =>
   obtain rfl:k=37:=hk
   obtain ⟨fo,ep,h1,h2,h3⟩:=Tre.rC ho
   obtain rfl:(⟨true,false,false,[]⟩:gd)=fo:=by simpa [bC] using ep
   obtain ⟨_,_,_,_,e2,e3⟩:=iq h1
   have e2:=e2 rfl
   have e3:=e3 rfl
   have iC:ks=[]:=by
    have:(ks.map Tre.kind).isEmpty=true:=h2
    simpa using this
   subst e2 e3 iC
   have hp:(Tre.mk 37 x 0 0 a []).pr=[eF x]:=by rw [Tre.fi]; simp [bw]
   rw [hp,Tre.nE,Tre.o9]
   exact XJ
theorem TM {k a:Int} {A B:Tre} (hk:k ∈ nH) (h8:k ≠ 25) (gA:Good L E A.kind A.pr A.flat) (gB:Good L E B.kind B.pr B.flat) :
 Good L E k (eK A.kind (if bR k=5 then 6 else bR k) A.pr++aC (kN k)::eK B.kind (bR k+1) B.pr) (node k [] 0 0 a (A.flat++B.flat)):=by
 have hop:∀ y r',aC (kN k)::eK B.kind (bR k+1) B.pr=y::r'->M8 y:=by
  intro y r' e
  obtain ⟨rfl,_⟩:=List.cons.inj e
  simp only [nH,cD,List.not_mem_nil,or_false] at hk
  rcases hk with rfl | rfl | rfl | rfl | rfl | rfl | rfl | rfl <;> decide
 have hl:(bR k=2\/bR k=3\/bR k=6\/bR k=7)\/bR k=5:=by
  simp only [nH,cD,List.not_mem_nil,or_false] at hk
  rcases hk with rfl | rfl | rfl | rfl | rfl | rfl | rfl | rfl
  all_goals first
   | exact absurd rfl h8
   | decide
 have hd:Hd (bR k) (eK A.kind (if bR k=5 then 6 else bR k) A.pr++aC (kN k)::eK B.kind (bR k+1) B.pr):=by
  refine (Hd.app (gA.LZ) hop).low ?_
  split <;> omega
 rcases hl with hl | hl
 . rw [if_neg (by omega)] at hd ⊢
   exact KK (by omega) (aaA hk (by omega) (by omega) (gA.aax (by omega)) (gB.L5 (by omega) (cX _) (by omega)) (by omega)) hd
 . rw [if_pos hl] at hd ⊢
   have:=Yx (a:=a) hk hl (gA.L5 (lev:=6) (least:=6) (by omega) (by omega) (by omega)) (gB.L5 (lev:=6) (least:=bR k+1) (by omega) (by omega) (by omega))
   exact Aw (by omega) (hl.symm ▸ this) hd (by omega)
theorem kY {lev:Nat} {w:aK} {l:List Tx} (h1:aC w ∉ BR) (h2:2 <= lev->aC w ∉ DT) (h3:5 <= lev->aC w ≠ aC pJ):Hd lev (aC w::l) :=
 ⟨_,_,rfl,.inr (.inr rfl),h1,fun e=>⟨h2 e,fun e1=>by rcases LK (w:=w) with h | h <;> omega⟩,h3⟩
theorem IG {x:aK}:eF x ∉ BR/\eF x ∉ DT/\eF x ≠ aC pJ:=by
 refine ⟨?_,?_,?_⟩ <;> simp [BR,DT,eF,aC,rR,mO,dI,ga,eg,oe,fW,kQ,ij,gq,hZ,pJ,lI]
theorem Mx {lev:Nat} {x:aK} {l:List Tx} (h:2 <= lev->∀ y r',l=y::r'->M8 y):Hd lev (eF x::l) :=
 ⟨_,_,rfl,.inl rfl,IG.1,fun e=>⟨IG.2.1,fun _=>h e⟩,fun _=>IG.2.2⟩
theorem adB {lev:Nat} {n:Int}:Hd lev [jl n] :=
 ⟨_,_,rfl,.inr (.inl rfl),by simp [BR,jl,aC,rR,mO,dI,ga,eg,lI],fun _=>⟨by simp [DT,jl,aC,oe,fW,kQ,ij,gq,hZ,lI],fun e=>by cases e⟩,fun _=>by simp [jl,aC,pJ,lI]⟩
theorem BZ:∀ (N:Nat) (t:Tre),t.flat.length <= N->t.flat.length <= 900->t.ok=true->(cq t.kind=true->Good L E t.kind t.pr t.flat)/\(ng t.kind=true->xi L E t.pr t.flat)
 | 0,t,hN,_,_=>by have:=t.ef; omega
 | N+1,.mk k x n m a ks,hN,h9,ho=>by
   obtain ⟨fo,ep,h1,h2,h3⟩:=Tre.rC ho
   have hlen:(Tre.bG ks).length+1=(Tre.mk k x n m a ks).flat.length:=by rw [Tre.fp]; simp
   have ih:∀ t ∈ ks,cq t.kind=true->Good L E t.kind t.pr t.flat:=fun t ht=>by
    have:=Tre.uu ht
    exact (BZ N t (by omega) (by omega) (h3 t ht)).1
   have wJ:∀ t ∈ ks,ng t.kind=true->xi L E t.pr t.flat:=fun t ht=>by
    have:=Tre.uu ht
    exact (BZ N t (by omega) (by omega) (h3 t ht)).2
   have sU:ks.length <= 900:=by have:=Tre.nF ks; omega
   have term:cq k=true->Good L E k (Tre.mk k x n m a ks).pr (Tre.mk k x n m a ks).flat:=by
    intro hk
    obtain ⟨f1,f2,f3,f4,f5,f6⟩:=iq h1
    rw [Tre.fi,Tre.nE]
    have hk:k=9\/k=10\/k=11\/k=12\/k=13\/k=14\/k=15\/k=16\/(k ∈ nH/\k ≠ 25)\/k=19\/k=25\/k=26\/(k=27\/k=28\/k=29\/k=30)\/k=31\/k=32\/k=33\/k=34:=by
     simp only [cq,dS] at hk
     simp only [nH,cD,List.not_mem_nil,or_false]
     omega
    rcases hk with rfl | rfl | rfl | rfl | rfl | rfl | rfl | rfl | ⟨hk,wv⟩ | rfl | rfl | rfl | hk | rfl | rfl | rfl | rfl
    . obtain rfl:(⟨false,false,false,[⟨.term,2,900⟩]⟩:gd)=fo:=by simpa [bC] using ep
      obtain rfl:=f1 rfl
      obtain rfl:=f5 rfl
      obtain rfl:=f6 rfl
      obtain ⟨hl,hc⟩:=AA h2
      match ks,hl with
      | p::q::ks,_ =>
        have g:∀ t ∈ p::q::ks,Good L E t.kind t.pr t.flat:=fun t ht=>ih t ht (hc t ht)
        have:=Vp (L:=L) (E:=E) (a:=a) (p:=(eK p.kind 1 p.pr,p.flat)) (q:=(eK q.kind 1 q.pr,q.flat)) (P:=ks.map fun t=>(eK t.kind 1 t.pr,t.flat)) (fun y hy=>by
         have hy:y ∈ (p::q::ks).map fun t=>(eK t.kind 1 t.pr,t.flat):=hy
         obtain ⟨t,ht,rfl⟩:=List.mem_map.1 hy
         exact ⟨(g t ht).jq,(g t ht).LZ.low (Nat.zero_le 1)⟩)
        have e2:(eK p.kind 1 p.pr,p.flat)::(eK q.kind 1 q.pr,q.flat)::ks.map (fun t=>(eK t.kind 1 t.pr,t.flat))=(p::q::ks).map fun t=>(eK t.kind 1 t.pr,t.flat):=rfl
        rw [e2,Tre.Qa (f:=fun t=>eK t.kind 1 t.pr),List.map_map] at this
        have hp:bw 9 [] 0 0 ((p::q::ks).map fun t=>(t.kind,t.pr))=dz cH ((p::q::ks).map (Prod.fst ∘ fun t=>(eK t.kind 1 t.pr,t.flat))):=by
         simp only [bw,List.map_map]; rfl
        rw [hp]
        refine ⟨this,fun e=>absurd rfl e,fun e=>by exact absurd e (by decide),fun e=>by exact absurd e (by decide),?_⟩
        rw [eC,nI]
        refine Hd.app ((g p (by simp)).LZ.low (by decide:bR 9 <= 1)) fun y r' e=>?_
        rw [eC,List.flatMap_cons] at e
        obtain ⟨rfl,_⟩:=List.cons.inj e
        decide
    . obtain rfl:(⟨false,false,false,[⟨.term,3,3⟩]⟩:gd)=fo:=by simpa [bC] using ep
      obtain rfl:=f1 rfl
      obtain rfl:=f5 rfl
      obtain rfl:=f6 rfl
      obtain ⟨A,B,C,rfl,hA,hB,hC⟩:=Ww h2
      have:=TE (a:=a) (ih A (by simp) hA).jq (ih B (by simp) hB).jq (ih C (by simp) hC).jq
      refine nP (by decide) (by simpa [bw] using this) ?_
      simp only [bw]
      exact kY (by decide) (by omega) (by omega)
    . obtain rfl:(⟨false,false,false,[⟨.term,2,2⟩]⟩:gd)=fo:=by simpa [bC] using ep
      obtain rfl:=f1 rfl
      obtain rfl:=f5 rfl
      obtain rfl:=f6 rfl
      obtain ⟨A,B,rfl,hA,hB⟩:=xN h2
      have:=JX (a:=a) (ih A (by simp) hA).jq (ih B (by simp) hB).jq
      refine nP (by decide) (by simpa [bw] using this) ?_
      simp only [bw]
      exact kY (by decide) (by omega) (by omega)
    . obtain rfl:(⟨true,true,true,[⟨.term,1,1⟩]⟩:gd)=fo:=by simpa [bC] using ep
      obtain ⟨A,rfl,hA⟩:=mM h2
      have:=OB (a:=a) (x:=x) f3 f4 (ih A (by simp) hA).jq
      refine nP (by decide) (by simpa [bw] using this) ?_
      simp only [bw]
      exact kY (by decide) (by omega) (by omega)
    . obtain rfl:(⟨true,false,false,[⟨.term,2,2⟩]⟩:gd)=fo:=by simpa [bC] using ep
      obtain rfl:=f5 rfl
      obtain rfl:=f6 rfl
      obtain ⟨A,B,rfl,hA,hB⟩:=xN h2
      have:=JW (a:=a) (x:=x) (ih A (by simp) hA).jq (ih B (by simp) hB).jq
      refine nP (by decide) (by simpa [bw] using this) ?_
      simp only [bw]
      exact kY (by decide) (by omega) (by omega)
    . obtain rfl:(⟨true,true,false,[⟨.term,1,1⟩]⟩:gd)=fo:=by simpa [bC] using ep
      obtain rfl:=f6 rfl
      obtain ⟨A,rfl,hA⟩:=mM h2
      have:=Hx (a:=a) (x:=x) f3 (ih A (by simp) hA).jq
      refine nP (by decide) (by simpa [bw] using this) ?_
      simp only [bw]
      exact kY (by decide) (by omega) (by omega)
    . obtain rfl:(⟨false,false,false,[⟨.term,2,2⟩]⟩:gd)=fo:=by simpa [bC] using ep
      obtain rfl:=f1 rfl
      obtain rfl:=f5 rfl
      obtain rfl:=f6 rfl
      obtain ⟨A,B,rfl,hA,hB⟩:=xN h2
      have:=Hw (a:=a) (ih A (by simp) hA).jq (ih B (by simp) hB).jq
      refine nP (by decide) (by simpa [bw] using this) ?_
      simp only [bw]
      exact kY (by decide) (by omega) (by omega)
    . obtain rfl:(⟨true,false,false,[⟨.term,1,1⟩]⟩:gd)=fo:=by simpa [bC] using ep
      obtain rfl:=f5 rfl
      obtain rfl:=f6 rfl
      obtain ⟨A,rfl,hA⟩:=mM h2
      have:=OC (a:=a) (x:=x) (ih A (by simp) hA).jq
      refine nP (by decide) (by simpa [bw] using this) ?_
      simp only [bw]
      exact Mx (by omega)
    . have km:fo=⟨false,false,false,[⟨.term,2,2⟩]⟩:=by
       simp only [nH,cD,List.not_mem_nil,or_false] at hk
       rcases hk with rfl | rfl | rfl | rfl | rfl | rfl | rfl | rfl
       all_goals first
        | exact absurd rfl wv
        | simpa [bC] using ep.symm
      subst km
      obtain rfl:=f1 rfl
      obtain rfl:=f5 rfl
      obtain rfl:=f6 rfl
      obtain ⟨A,B,rfl,hA,hB⟩:=xN h2
      have:=TM (a:=a) hk wv (ih A (by simp) hA) (ih B (by simp) hB)
      have hp:bw k [] 0 0 ([A,B].map fun t=>(t.kind,t.pr))=eK A.kind (if bR k=5 then 6 else bR k) A.pr++aC (kN k)::eK B.kind (bR k+1) B.pr:=by
       simp only [nH,cD,List.not_mem_nil,or_false] at hk
       rcases hk with rfl | rfl | rfl | rfl | rfl | rfl | rfl | rfl
       all_goals first
        | exact absurd rfl wv
        | simp [bw,bR]
      rw [hp]
      simpa using this
    . obtain rfl:(⟨false,false,false,[⟨.term,1,1⟩]⟩:gd)=fo:=by simpa [bC] using ep
      obtain rfl:=f1 rfl
      obtain rfl:=f5 rfl
      obtain rfl:=f6 rfl
      obtain ⟨A,rfl,hA⟩:=mM h2
      have:=abr (a:=a) ((ih A (by simp) hA).L5 (lev:=4) (least:=4) (by omega) (by omega) (by omega))
      refine Aw (k:=19) (by decide) (show mw L E 4 _ _ from by simpa [bw] using this) ?_ (fun e=>absurd e (by decide))
      simp only [bw]
      exact kY (by decide) (fun _=>by decide) (fun e=>absurd e (by decide))
    . obtain rfl:(⟨false,true,false,[⟨.term,1,1⟩]⟩:gd)=fo:=by simpa [bC] using ep
      obtain rfl:=f1 rfl
      obtain rfl:=f6 rfl
      obtain ⟨A,rfl,hA⟩:=mM h2
      have g:=ih A (by simp) hA
      have:=adi (a:=a) f3 (g.aax (lev:=8) (by omega))
      refine KK (k:=25) (by decide) (show tc L E 8 _ _ from by simpa [bw] using this) ?_
      have hp:bw 25 [] n 0 ([A].map fun t=>(t.kind,t.pr))=eK A.kind 8 A.pr++[aC uN,jl n]:=by simp [bw]
      rw [hp]
      refine Hd.app g.LZ fun y r' e=>?_
      obtain ⟨rfl,_⟩:=List.cons.inj e
      decide
    . obtain rfl:(⟨false,true,false,[]⟩:gd)=fo:=by simpa [bC] using ep
      obtain rfl:=f1 rfl
      obtain rfl:=f6 rfl
      obtain rfl:ks=[]:=by
       have:(ks.map Tre.kind).isEmpty=true:=h2
       simpa using this
      refine lZ (by decide) (by simpa [bw] using Tc (a:=a) f3) ?_
      simp only [bw]
      exact adB
    . have km:fo=⟨false,false,false,[]⟩:=by rcases hk with rfl | rfl | rfl | rfl <;> simpa [bC] using ep.symm
      subst km
      obtain rfl:=f1 rfl
      obtain rfl:=f5 rfl
      obtain rfl:=f6 rfl
      obtain rfl:ks=[]:=by
       have:(ks.map Tre.kind).isEmpty=true:=h2
       simpa using this
      rcases hk with rfl | rfl | rfl | rfl
      . exact lZ (by decide) (by simpa [bw] using uR (a:=a) (k:=27) (w:=dB) (by decide)) (by simp only [bw]; exact kY (by decide) (fun _=>by decide) (fun _=>by decide))
      . exact lZ (by decide) (by simpa [bw] using uR (a:=a) (k:=28) (w:=dE) (by decide)) (by simp only [bw]; exact kY (by decide) (fun _=>by decide) (fun _=>by decide))
      . exact lZ (by decide) (by simpa [bw] using uR (a:=a) (k:=29) (w:=fB) (by decide)) (by simp only [bw]; exact kY (by decide) (fun _=>by decide) (fun _=>by decide))
      . exact lZ (by decide) (by simpa [bw] using uR (a:=a) (k:=30) (w:=gw) (by decide)) (by simp only [bw]; exact kY (by decide) (fun _=>by decide) (fun _=>by decide))
    . obtain rfl:(⟨true,false,false,[]⟩:gd)=fo:=by simpa [bC] using ep
      obtain rfl:=f5 rfl
      obtain rfl:=f6 rfl
      obtain rfl:ks=[]:=by
       have:(ks.map Tre.kind).isEmpty=true:=h2
       simpa using this
      refine lZ (by decide) (by simpa [bw] using N1 (a:=a)) ?_
      simp only [bw]
      exact kY (by decide) (fun _=>by decide) (fun _=>by decide)
    . obtain rfl:(⟨true,false,false,[]⟩:gd)=fo:=by simpa [bC] using ep
      obtain rfl:=f5 rfl
      obtain rfl:=f6 rfl
      obtain rfl:ks=[]:=by
       have:(ks.map Tre.kind).isEmpty=true:=h2
       simpa using this
      refine lZ (by decide) (by simpa [bw] using Tb (a:=a)) ?_
      simp only [bw]
      exact kY (by decide) (fun _=>by decide) (fun _=>by decide)
    . obtain rfl:(⟨true,false,false,[]⟩:gd)=fo:=by simpa [bC] using ep
      obtain rfl:=f5 rfl
      obtain rfl:=f6 rfl
      obtain rfl:ks=[]:=by
       have:(ks.map Tre.kind).isEmpty=true:=h2
       simpa using this
      refine lZ (by decide) (by simpa [bw] using N2 (a:=a)) ?_
      simp only [bw]
      exact Mx fun _ y r' e=>by cases e
    . obtain rfl:(⟨true,false,false,[⟨.arg,1,900⟩]⟩:gd)=fo:=by simpa [bC] using ep
      obtain rfl:=f5 rfl
      obtain rfl:=f6 rfl
      obtain ⟨hl,hc⟩:=AA h2
      match ks,hl with
      | p::ks,_ =>
        have:=N0 (L:=L) (E:=E) (a:=a) (x:=x) (p:=(p.pr,p.flat)) (P:=ks.map fun t=>(t.pr,t.flat)) (fun y hy=>by
         have hy:y ∈ (p::ks).map fun t=>(t.pr,t.flat):=hy
         obtain ⟨t,ht,rfl⟩:=List.mem_map.1 hy
         exact wJ t ht (hc t ht))
        have e2:(p.pr,p.flat)::ks.map (fun t=>(t.pr,t.flat))=(p::ks).map fun t=>(t.pr,t.flat):=rfl
        rw [e2,Tre.Qa (f:=Tre.pr),List.map_map] at this
        have hp:bw 34 x 0 0 ((p::ks).map fun t=>(t.kind,t.pr))=eF x::aC cP::dz cV ((p::ks).map (Prod.fst ∘ fun t=>(t.pr,t.flat)))++[aC cC]:=by
         simp only [bw,List.map_map]; rfl
        rw [hp]
        refine lZ (by decide) this (Mx fun _ y r' e=>?_)
        obtain ⟨rfl,_⟩:=List.cons.inj e
        decide
   refine ⟨term,fun hk=>?_⟩
   by_cases ht:cq k=true
   . exact (term ht).arg
   have hk:k=35\/k=36:=by
    have hk:ng k=true:=hk
    simp only [ng,cq,dS] at hk ht
    omega
   obtain ⟨f1,f2,f3,f4,f5,f6⟩:=iq h1
   rw [Tre.fi,Tre.nE]
   rcases hk with rfl | rfl
   . obtain rfl:(⟨false,false,false,[⟨.kind 37,1,900⟩,⟨.term,1,1⟩]⟩:gd)=fo:=by simpa [bC] using ep
     obtain rfl:=f1 rfl
     obtain rfl:=f5 rfl
     obtain rfl:=f6 rfl
     obtain ⟨ps,b,rfl,hl,tA,hb⟩:=C5 (by omega) h2
     obtain ⟨p,ps,rfl⟩:∃ p q,ps=p::q:=by
      cases ps with
      | nil=>simp at hl
      | cons p q=>exact ⟨p,q,rfl⟩
     have gb:=ih b (by simp) hb
     have key:=aap (L:=L) (E:=E) (a:=a) (p:=(p.pr,p.flat)) (P:=ps.map fun t=>(t.pr,t.flat)) (fun q hq=>by
      have hq:q ∈ (p::ps).map fun t=>(t.pr,t.flat):=hq
      obtain ⟨t,ht,rfl⟩:=List.mem_map.1 hq
      exact EM (h3 t (List.mem_append_left _ ht)) (by simpa [iK.is] using tA t ht)) gb.jq
     have e2:(p.pr,p.flat)::ps.map (fun t=>(t.pr,t.flat))=(p::ps).map fun t=>(t.pr,t.flat):=rfl
     rw [e2,Tre.Qa] at key
     have hp:bw 35 [] 0 0 ((p::ps++[b]).map fun t=>(t.kind,t.pr))=aC rR::aC cP::(dz cV (((p::ps).map fun t=>(t.pr,t.flat)).map Prod.fst)++aC cC::eK b.kind 1 b.pr):=by
      have e:(p::ps++[b]).map (fun t=>(t.kind,t.pr))=((p::ps).map fun t=>(t.kind,t.pr))++[(b.kind,b.pr)]:=by simp
      rw [e]
      generalize hq:(p::ps).map (fun t=>(t.kind,t.pr))=q
      rw [List.map_map]
      have e3:(p::ps).map (Prod.fst ∘ fun t=>(t.pr,t.flat))=q.map (·.2):=by rw [<- hq,List.map_map]; rfl
      rw [e3]
      simp [bw,pT]
     rw [hp,Tre.gM]
     simpa using key
   . obtain rfl:(⟨false,false,false,[⟨.term,1,1⟩,⟨.kind 37,1,1⟩,⟨.term,1,1⟩]⟩:gd)=fo:=by simpa [bC] using ep
     obtain rfl:=f1 rfl
     obtain rfl:=f5 rfl
     obtain rfl:=f6 rfl
     obtain ⟨A,B,C,rfl,hA,hB,hC⟩:=Lg h2
     have key:=LS (a:=a) (ih A (by simp) hA).jq (EM (E:=E) (h3 B (by simp)) (by simpa [iK.is] using hB)) (ih C (by simp) hC).jq
     simpa [bw] using key
theorem Pr {t:Tre} (h9:t.flat.length <= 900) (ho:t.ok=true) (hk:iQ t.kind=true):GW L E t.pr t.flat:=by
 cases t with
 | mk k x n m a ks =>
   obtain ⟨fo,ep,h1,h2,h3⟩:=Tre.rC ho
   have hlen:(Tre.bG ks).length+1=(Tre.mk k x n m a ks).flat.length:=by rw [Tre.fp]; simp
   have sU:ks.length <= 900:=by have:=Tre.nF ks; omega
   obtain ⟨f1,f2,f3,f4,f5,f6⟩:=iq h1
   rw [Tre.fi,Tre.nE]
   have oT:k=2\/(k=3\/k=4):=by
    have hk:iQ k=true:=hk
    simp only [iQ,dS] at hk
    omega
   rcases oT with rfl | oT
   . obtain rfl:(⟨true,false,false,[⟨.type,1,1⟩]⟩:gd)=fo:=by simpa [bC] using ep
     obtain rfl:=f5 rfl
     obtain rfl:=f6 rfl
     obtain ⟨b,rfl,hb⟩:=mM h2
     have:=J3 (L:=L) (E:=E) (a:=a) (x:=x) fun f hf=>Gi (h3 b (by simp)) hb hf
     simpa [bw] using this
   . have km:fo=⟨true,false,false,[⟨.kind 5,0,900⟩,⟨.base,1,1⟩,⟨.term,1,1⟩]⟩:=by rcases oT with rfl | rfl <;> simpa [bC] using ep.symm
     subst km
     obtain rfl:=f5 rfl
     obtain rfl:=f6 rfl
     obtain ⟨ps,b,c,rfl,hl,tA,hb,hc⟩:=xO (by omega) h2
     have hcl:=Tre.uu (ks:=ps++[b,c]) (t:=c) (by simp)
     have gc:=(BZ (L:=L) (E:=E) _ c (cX _) (by omega) (h3 c (by simp))).1 hc
     have gb:=(y6 (L:=L) (E:=E) (h3 b (by simp)) hb).1
     have key:=Uj (L:=L) (E:=E) (a:=a) (k:=k) (x:=x) (ps:=ps.map fun t=>(t.pr,t.flat)) oT (fun f hf q hq=>by
      obtain ⟨t,ht,rfl⟩:=List.mem_map.1 hq
      exact Ni (h3 t (List.mem_append_left _ ht)) (by simpa [iK.is] using tA t ht) hf) gb gc.term
     rw [Tre.Qa,List.map_map] at key
     have hp:bw k x 0 0 ((ps++[b,c]).map fun t=>(t.kind,t.pr))=aC (if k=3 then ga else eg)::eF x::aC cP::(dz cV (ps.map (Prod.fst ∘ fun t=>(t.pr,t.flat)))++aC cC::aC ez::(b.pr++aC gY::(c.pr++[aC cH]))):=by
      have e:(ps++[b,c]).map (fun t=>(t.kind,t.pr))=(ps.map fun t=>(t.kind,t.pr))++[(b.kind,b.pr),(c.kind,c.pr)]:=by simp
      rw [e]
      generalize hq:ps.map (fun t=>(t.kind,t.pr))=q
      have e3:ps.map (Prod.fst ∘ fun t=>(t.pr,t.flat))=q.map (·.2):=by rw [<- hq,List.map_map]; rfl
      rw [e3]
      have el:(q++[(b.kind,b.pr),(c.kind,c.pr)]).length - 2=q.length:=by simp
      have el1:(q++[(b.kind,b.pr),(c.kind,c.pr)]).length - 1=q.length+1:=by simp
      rcases oT with rfl | rfl <;> simp [bw,el,el1,pT]
     rw [hp,Tre.gM]
     simpa using key
end
end Go.Rip
namespace Go.Rip
def mT (x:Tx):Prop:=x.2 ≠ []/\iI x.2=(0,x.1,x.2)
instance (x:Tx):Decidable (mT x):=inferInstanceAs (Decidable (_/\_))
theorem mT.tk {x:Tx} (h:mT x):mx ⟨x.1,x.2,0⟩:=h
theorem aeG:∀ w ∈ ni++ke,mT (aC w):=by decide
theorem adT {x:aK} (h:kI x=true) (h0:x ≠ []):mT (eF x):=⟨h0,of_decide_eq_true h⟩
theorem Lb {n:Nat} (h:n < 10):gJ (48+n).toUInt8=true:=by
 have:(48+n).toUInt8.toNat=48+n:=by simp [Nat.toUInt8,UInt8.toNat_ofNat']; omega
 rw [ma]; omega
theorem Ip:∀ (f n:Nat),(mc f n).all gJ=true
 | 0,n=>rfl
 | f+1,n=>by
   unfold mc
   split
   . rename_i h
     simp only [List.all_cons,List.all_nil,Bool.and_true]
     exact Lb h
   . rw [List.all_append,Ip f]
     simp only [List.all_cons,List.all_nil,Bool.and_true,Bool.true_and]
     exact Lb (Nat.mod_lt _ (by decide))
theorem Lc:∀ (f n:Nat),mc (f+1) n ≠ []
 | f,n=>by
   unfold mc
   split <;> simp
theorem Fw:∀ (f n:Nat),1 <= n->n < 10 ^ f->(mc f n).head? ≠ some 48
 | 0,n,h,h'=>by simp at h'; omega
 | f+1,n,h,h'=>by
   unfold mc
   split
   . rename_i h9
     simp only [List.head?_cons,ne_eq,ja]
     intro e
     have e2:(48+n).toUInt8.toNat=48+n:=by simp [Nat.toUInt8,UInt8.toNat_ofNat']; omega
     rw [e] at e2
     have:(48:UInt8).toNat=48:=rfl
     omega
   . rename_i h9
     have ih:=Fw f (n / 10) (by omega) (by rw [Nat.pow_succ] at h'; omega)
     have hn:mc f (n / 10) ≠ []:=by
      cases f with
      | zero=>simp at h'; omega
      | succ f=>exact Lc f _
     rw [List.head?_append]
     cases hh:(mc f (n / 10)).head? with
     | none=>exact absurd (List.head?_eq_none_iff.1 hh) hn
     | some c=>rw [hh] at ih; simpa using ih
theorem abY {s:aK} (h:s.all gJ=true):s.takeWhile dm=s:=by
 have:∀ x ∈ s,dm x=true:=fun x hx=>by
  have:=fl.1 h x hx
  simp [dm,this]
 clear h
 induction s with
 | nil=>rfl
 | cons c s ih=>rw [oN,this c (by simp),if_pos rfl,ih fun x hx=>this x (by simp [hx])]
theorem WG {n:Int} (h:dH n=true):mT (jl n):=by
 have hn:=of_decide_eq_true h
 have agV:(1000000:Nat) < 10 ^ 20:=by decide
 have hd:=Ip 20 n.toNat
 have cn:=Lc 19 n.toNat
 have hv:=Hm h
 refine ⟨cn,?_⟩
 have htw:=abY hd
 obtain ⟨c,r,hcr⟩:∃ c r,mc 20 n.toNat=c::r:=by
  cases e:mc 20 n.toNat with
  | nil=>exact absurd e cn
  | cons c r=>exact ⟨c,r,rfl⟩
 show iI (nM n)=(0,2,nM n)
 have hE:pd (nM n)=0:=by
  unfold pd
  rw [if_neg (by unfold nM; simp [hd]),if_neg ?_,if_neg ?_]
  . have h1:=tY (nM n) 0 hd (by omega)
    have hle:=Ek (nM n) 0 (by omega)
    show ¬ 1000000 < jZ 0 (nM n)
    have key:∀ (s:aK) (a b:Int),s.all gJ=true->0 <= b->min b 1000001=a->jZ a s=min (rh b s) 1000001:=by
     intro s
     induction s with
     | nil=>intro a b _ _ e; show a=_; rw [<- e]; rfl
     | cons c s ih =>
       intro a b hs hb e
       simp only [List.all_cons,bX] at hs
       have hc:=ma.1 hs.1
       exact ih _ (10 * b+((c.toNat:Int) - 48)) hs.2 (by omega) (by show min _ _=min (10 * a+((c.toNat:Int) - 48)) 1000001; omega)
    have:=key (nM n) 0 0 hd (by omega) rfl
    have hv:rh 0 (nM n)=n:=hv
    rw [this,hv]; omega
  . rintro ⟨h1,h2⟩
    by_cases h9:n.toNat < 10
    . unfold nM mc at h1
      rw [if_pos h9] at h1
      simp at h1
    . exact Fw 20 n.toNat (by omega) (by omega) h2
 unfold iI
 simp only
 unfold nM at hE ⊢
 rw [htw,hcr]
 rw [hcr] at hE
 have hc:gJ c=true:=by
  rw [hcr] at hd
  simp only [List.all_cons,bX] at hd
  exact hd.1
 simp only [hc,if_true,hE]
theorem LA:∀ w ∈ ke,∃ c r,w=c::r/\dm c=false/\c ≠ 62/\c ≠ 32/\c ≠ 10/\c ≠ 126/\(c=61->w=gY):=by
 intro w hw
 simp only [ke,cD,List.not_mem_nil,or_false] at hw
 rcases hw with rfl | rfl | rfl | rfl | rfl | rfl | rfl | rfl | rfl | rfl | rfl | rfl | rfl | rfl | rfl | rfl <;> exact ⟨_,_,rfl,by decide,by decide,by decide,by decide,by decide,by decide⟩
theorem Y9 {c:UInt8} (h:dm c=true):c ≠ 62/\c ≠ 32/\c ≠ 10/\c ≠ 126/\c ≠ 61:=by
 refine ⟨?_,?_,?_,?_,?_⟩ <;> (rintro rfl; exact absurd h (by decide))
theorem DF {x:Tx} (h:mT x):∃ c r,x.2=c::r/\c ≠ 62/\c ≠ 32/\c ≠ 10/\c ≠ 126/\(c=61->x.2=gY)/\(x.1=4->dm c=false/\x.2 ∈ ke)/\(x.1 ≠ 4->x.2.all dm=true/\x.1 ≠ 4):=by
 have key:(∃ c r,x.2=c::r/\dm c=true)->x.1 ≠ 4->x.2.all dm=true->∃ c r,x.2=c::r/\c ≠ 62/\c ≠ 32/\c ≠ 10/\c ≠ 126/\(c=61->x.2=gY)/\(x.1=4->dm c=false/\x.2 ∈ ke)/\(x.1 ≠ 4->x.2.all dm=true/\x.1 ≠ 4):=by
  rintro ⟨c,r,e,hc⟩ h4 ha
  obtain ⟨a1,a2,a3,a4,a5⟩:=Y9 hc
  exact ⟨c,r,e,a1,a2,a3,a4,fun e=>absurd e a5,fun e=>absurd e h4,fun _=>⟨ha,h4⟩⟩
 have kw:∀ w ∈ ni,w.all dm=true:=by decide
 have first:∀ {s:aK},s ≠ []->s.all dm=true->∃ c r,s=c::r/\dm c=true:=by
  intro s h0 h
  cases s with
  | nil=>exact absurd rfl h0
  | cons c r=>simp only [List.all_cons,bX] at h; exact ⟨c,r,rfl,h.1⟩
 rcases qX h.2 with k | k | k | k
 . exact key (first h.1 k.2.2.2.2) (by omega) k.2.2.2.2
 . have hd:=(Ej (Cl (by rw [h.2,k.1]) h.1)).1
   have ha:x.2.all dm=true:=by
    rw [fl] at hd ⊢
    intro c hc; simp [dm,hd c hc]
   exact key (first h.1 ha) (by omega) ha
 . exact key (first h.1 (kw _ k.2)) (by omega) (kw _ k.2)
 . obtain ⟨c,r,e,h1,h2,h3,h4,h5,h6⟩:=LA _ k.2
   exact ⟨c,r,e,h2,h3,h4,h5,h6,fun _=>⟨h1,k.2⟩,fun h=>absurd k.1 h⟩
theorem Jw {p:UInt8->Bool}:∀ {s t:aK},s.all p=true->(∀ c r,t=c::r->p c=false)->(s++t).takeWhile p=s
 | [],[],_,_=>rfl
 | [],c::r,_,h=>by rw [jN,oN,h c r rfl]; rfl
 | c::s,t,h,k=>by
   simp only [List.all_cons,bX] at h
   rw [ix,oN,h.1,if_pos rfl,Jw h.2 k]
theorem Vt {s t:aK} (h0:s ≠ []) (h:s.all dm=true) (k:∀ c r,t=c::r->dm c=false):iI (s++t)=iI s:=by
 have e1:=Jw h k
 have e2:=Jw (t:=[]) h (by simp)
 rw [gy] at e2
 unfold iI
 simp only [e1,e2]
 cases s with
 | nil=>exact absurd rfl h0
 | cons c s=>rfl
theorem Vv {w t:aK} (hw:w ∈ ke) (h1:w=ez->∀ c r,t=c::r->c ≠ 61) (h2:w=rP->∀ c r,t=c::r->c ≠ 62):iI (w++t)=(0,4,w):=by
 obtain ⟨c,r,e,hc,_⟩:=LA w hw
 have etw:(w++t).takeWhile dm=[]:=by rw [e,ix,oN,hc]; rfl
 unfold iI
 simp only [etw]
 have hf:ke.find? (fun x=>x.isPrefixOf (w++t))=some w:=by
  simp only [ke,cD,List.not_mem_nil,or_false] at hw
  rcases hw with rfl | rfl | rfl | rfl | rfl | rfl | rfl | rfl | rfl | rfl | rfl | rfl | rfl | rfl | rfl | rfl
  all_goals first
   | rfl
   | (cases t with
      | nil=>rfl
      | cons c r =>
        have e2:((62:UInt8) == c)=false:=by simp [Ne.symm (h2 rfl c r rfl)]
        simp [ke,List.find?,List.isPrefixOf,bV,fO,gY,sN,sM,rP,e2])
   | (cases t with
      | nil=>rfl
      | cons c r =>
        have e2:((61:UInt8) == c)=false:=by simp [Ne.symm (h1 rfl c r rfl)]
        simp [ke,List.find?,List.isPrefixOf,bV,fO,gY,sN,sM,rP,tS,lM,cP,cC,mO,rQ,cV,cH,ez,e2])
 rw [hf]
def GU (a:Tx) (t:aK):Prop:=(a.1 ≠ 4->∀ c r,t=c::r->dm c=false)/\(a.2=ez->∀ c r,t=c::r->c ≠ 61)/\∀ c r,t=c::r->c ≠ 62
theorem Vu {a:Tx} {t:aK} (h:mT a) (k:GU a t):iI (a.2++t)=(0,a.1,a.2):=by
 obtain ⟨c,r,e,_,_,_,_,_,h4,hn⟩:=DF h
 by_cases h':a.1=4
 . rw [Vv (h4 h').2 k.2.1 fun _=>k.2.2,h']
 . rw [Vt h.1 (hn h').1 (k.1 h'),h.2]
theorem EK {a:Tx} {c:UInt8} {t:aK} (h:c=32\/c=10):GU a (c::t):=by
 refine ⟨fun _ c' r e=>?_,fun _ c' r e=>?_,fun c' r e=>?_⟩
 all_goals
  obtain ⟨rfl,_⟩:=List.cons.inj e
  rcases h with rfl | rfl <;> decide
theorem XH {a:Tx}:GU a []:=⟨fun _ c r e=>(nomatch e),fun _ c r e=>(nomatch e),fun c r e=>(nomatch e)⟩
theorem Tg {a b:Tx} {t:aK} (ha:mT a) (hb:mT b) (h:oh a b=false):GU a (b.2++t):=by
 obtain ⟨c,r,e,h62,_,_,_,h61,h4,hn⟩:=DF hb
 simp only [oh,Bool.or_eq_false_iff,Bool.and_eq_false_iff,bne_eq_false_iff_eq,beq_eq_false_iff_ne] at h
 rw [e]
 refine ⟨fun h1 c' r' e'=>?_,fun h1 c' r' e'=>?_,fun c' r' e'=>?_⟩
 all_goals obtain ⟨rfl,_⟩:=List.cons.inj e'
 . rcases h.1 with h | h
   . exact absurd h h1
   . exact (h4 h).1
 . intro e61
   rcases h.2 with h | h
   . exact h h1
   . exact h (h61 e61)
 . exact h62
theorem pI {a b:Tx} {l:List Tx}:dh (a::b::l)=a.2++(if oh a b then [32] else [])++dh (b::l):=rfl
theorem SJ {b:Tx} {l:List Tx}:∃ t,dh (b::l)=b.2++t:=by
 cases l with
 | nil=>exact ⟨[],by simp [dh]⟩
 | cons c l=>exact ⟨_,by rw [pI,gn]⟩
theorem B3 {s:aK} {p f:Nat} {acc:List Tk} {a:Tx} {t:aK} (h:mT a) (hs:s.drop p=a.2++t) (hb:GU a t):fL (f+1) s p acc=if acc.length=900 then .bad p 5 else fL f s (p+a.2.length) (acc++[⟨a.1,a.2,p⟩]):=by
 obtain ⟨c,r,e,_,h32,oS,D2,_⟩:=DF h
 have ht:=Vu h hb
 rw [e] at hs ht
 rw [fL,hs]
 rw [ix] at ht ⊢
 have n32:c.toNat ≠ 32:=fun e=>h32 (UInt8.toNat_inj.1 e)
 have n10:c.toNat ≠ 10:=fun e=>oS (UInt8.toNat_inj.1 e)
 have n126:c.toNat ≠ 126:=fun e=>D2 (UInt8.toNat_inj.1 e)
 simp only [n32,n10,n126,or_self,if_false,ht,ne_eq,not_true]
 rw [e]
theorem FG {s:aK} {p f:Nat} {acc:List Tk} {c:UInt8} {t:aK} (hs:s.drop p=c::t) (hc:c=32\/c=10):fL (f+1) s p acc=fL f s (p+1) acc:=by
 rw [fL,hs]
 rcases hc with rfl | rfl <;> rfl
theorem xo {s t:aK} {p:Nat} (h:s.drop p=t) (h0:t ≠ []):p+t.length=s.length:=by
 have:=congrArg List.length h
 have:0 < t.length:=List.length_pos_iff.2 h0
 simp at *; omega
theorem BV {s a t:aK} {p:Nat} (h:s.drop p=a++t):s.drop (p+a.length)=t:=by rw [<- List.drop_drop,h,List.drop_left]
theorem FI {s:aK}:∀ (l:List Tx) (acc:List Tk) (p f:Nat) (rest:aK),(∀ x ∈ l,mT x)->s.drop p=dh l++rest->(rest=[]\/∃ r,rest=10::r)->s.length - p <= f->acc.length <= 900 ->
 (acc.length+l.length <= 900->∃ ts f',ts.map tx=l/\s.length - (p+(dh l).length) <= f'/\fL f s p acc=fL f' s (p+(dh l).length) (acc++ts))/\(900 < acc.length+l.length->∃ q,fL f s p acc=.bad q 5)
 | [],acc,p,f,rest,hl,hs,hr,hf,ha=>⟨fun _=>⟨[],f,rfl,by simpa [dh] using hf,by simp [dh]⟩,fun h=>by simp at h; omega⟩
 | [a],acc,p,f,rest,hl,hs,hr,hf,ha=>by
   have h:=hl a (by simp)
   have hs:s.drop p=a.2++rest:=hs
   have hb:GU a rest:=by
    rcases hr with rfl | ⟨r,rfl⟩
    . exact XH
    . exact EK (.inr rfl)
   have cn:a.2++rest ≠ []:=by simp [h.1]
   have:=xo hs cn
   have hp:0 < a.2.length:=List.length_pos_iff.2 h.1
   simp only [df] at this
   obtain ⟨f,rfl⟩:∃ g,f=g+1:=⟨f - 1,by omega⟩
   rw [B3 h hs hb]
   refine ⟨fun h9=>⟨[⟨a.1,a.2,p⟩],f,rfl,by simp [dh]; omega,?_⟩,fun h9=>⟨p,?_⟩⟩
   . rw [if_neg (by simp at h9; omega)]; rfl
   . rw [if_pos (by simp at h9; omega)]
 | a::b::l,acc,p,f,rest,hl,hs,hr,hf,ha=>by
   have h:=hl a (by simp)
   have hb:=hl b (by simp)
   rw [pI] at hs
   have hp:0 < a.2.length:=List.length_pos_iff.2 h.1
   have key:∀ (p' f':Nat),(p'=p+a.2.length+(if oh a b then [(32:UInt8)] else []).length)->s.drop p'=dh (b::l)++rest->s.length - p' <= f'->(acc.length ≠ 900->fL f s p acc=fL f' s p' (acc++[⟨a.1,a.2,p⟩]))->(acc.length=900->fL f s p acc=.bad p 5) ->
    (acc.length+(a::b::l).length <= 900->∃ ts f',ts.map tx=a::b::l/\s.length - (p+(dh (a::b::l)).length) <= f'/\fL f s p acc=fL f' s (p+(dh (a::b::l)).length) (acc++ts))/\(900 < acc.length+(a::b::l).length->∃ q,fL f s p acc=.bad q 5):=by
    intro p' f' Wf eO km e1 e2
    by_cases h9:acc.length=900
    . exact ⟨fun h=>by simp at h; omega,fun _=>⟨p,e2 h9⟩⟩
    . obtain ⟨k1,k2⟩:=FI (b::l) (acc++[⟨a.1,a.2,p⟩]) p' f' rest (fun x hx=>hl x (by simp only [cD] at hx ⊢; exact .inr hx)) eO hr km (by simp; omega)
      have hlen:p'+(dh (b::l)).length=p+(dh (a::b::l)).length:=by rw [pI,Wf]; simp only [df]; omega
      refine ⟨fun h=>?_,fun h=>?_⟩
      . obtain ⟨ts,g,t1,t2,t3⟩:=k1 (by simp only [df,gU,lB] at h ⊢; omega)
        rw [hlen] at t2 t3
        refine ⟨⟨a.1,a.2,p⟩::ts,g,by rw [eC,t1]; rfl,t2,?_⟩
        rw [e1 h9,t3,gn]; rfl
      . obtain ⟨q,t3⟩:=k2 (by simp only [df,gU,lB] at h ⊢; omega)
        exact ⟨q,by rw [e1 h9,t3]⟩
   cases Fb:oh a b with
   | false =>
     rw [Fb] at hs key
     simp only [bU,if_false,gy,lB,Nat.add_zero] at hs key
     rw [gn] at hs
     obtain ⟨t,ht⟩:=SJ (b:=b) (l:=l)
     have rW:s.drop p=a.2++(b.2++(t++rest)):=by rw [hs,ht,gn]
     have hbh:=Tg (t:=t++rest) h hb Fb
     have:=xo rW (by simp [h.1])
     simp only [df] at this
     obtain ⟨f,rfl⟩:∃ g,f=g+1:=⟨f - 1,by omega⟩
     have fT:=B3 (f:=f) (acc:=acc) h rW hbh
     refine key _ f rfl (BV hs) (by omega) (fun h9=>by rw [fT,if_neg h9]) fun h9=>by rw [fT,if_pos h9]
   | true =>
     rw [Fb] at hs key
     simp only [if_true,gU,lB,cU] at hs key
     have rW:s.drop p=a.2++(32::(dh (b::l)++rest)):=by rw [hs]; simp
     have hbh:GU a (32::(dh (b::l)++rest)):=EK (.inl rfl)
     have:=xo rW (by simp [h.1])
     simp only [df,gU] at this
     obtain ⟨f,rfl⟩:∃ g,f=g+1:=⟨f - 1,by omega⟩
     obtain ⟨f,rfl⟩:∃ g,f=g+1:=⟨f - 1,by omega⟩
     have fT:=B3 (f:=f+1) (acc:=acc) h rW hbh
     have hd:=BV rW
     refine key _ f rfl (by rw [<- List.drop_drop,hd]; rfl) (by omega) (fun h9=>by rw [fT,if_neg h9,FG hd (.inl rfl)]) fun h9=>by rw [fT,if_pos h9]
end Go.Rip
namespace Go.Rip
theorem Ci {w:aK} {x:Tx}:∀ {ls:List (List Tx)},x ∈ dz w ls->x=aC w\/∃ l ∈ ls,x ∈ l
 | [],h=>by simp [dz] at h
 | [l],h=>.inr ⟨l,by simp,h⟩
 | l::m::ls,h=>by
   rw [dz,fS,cD] at h
   rcases h with h | h | h
   . exact .inr ⟨l,by simp,h⟩
   . exact .inl h
   . rcases Ci h with h | ⟨k,h1,h2⟩
     . exact .inl h
     . exact .inr ⟨k,List.mem_cons_of_mem _ h1,h2⟩
theorem Ky {k:Int} {n:Nat} {l:List Tx} {x:Tx} (h:x ∈ eK k n l):x=aC cP\/x=aC cC\/x ∈ l:=by
 unfold eK at h
 split at h
 . exact .inr (.inr h)
 . simp only [ix,cD,fS,List.not_mem_nil,or_false] at h
   rcases h with h | h | h
   . exact .inl h
   . exact .inr (.inr h)
   . exact .inr (.inl h)
theorem X3 {c:Prop} [Decidable c] {x:Tx} {A B:List Tx} {G:Prop} (h:x ∈ if c then A else B) (h1:c->x ∈ A->G) (h2:¬ c->x ∈ B->G):G:=by
 split at h
 . exact h1 ‹_› h
 . exact h2 ‹_› h
theorem P6 {P:Tx->Prop} {k:Int} {t:aK} {n m:Int} {ks:List (Int × List Tx)} {f:gd} (hf:bC k=some f) (hw:∀ w ∈ ni++ke,P (aC w)) (ht:f.text=true->P (eF t)) (hn:P (jl n)) (hm:P (jl m)) (hk:∀ y ∈ ks,∀ x ∈ y.2,P x):∀ x ∈ bw k t n m ks,P x:=by
 have hg:∀ i,∀ x ∈ (ks.getD i (0,[])).2,P x:=by
  intro i x hx
  rw [pT] at hx
  cases h:ks[i]? with
  | none=>rw [h] at hx; simp at hx
  | some y=>rw [h] at hx; exact hk y (gh h) x hx
 have hb:∀ least i,∀ x ∈ eK (ks.getD i (0,[])).1 least (ks.getD i (0,[])).2,P x:=by
  intro least i x hx
  rcases Ky hx with rfl | rfl | h
  . exact hw _ (by decide)
  . exact hw _ (by decide)
  . exact hg i x h
 have hs:∀ w ∈ ni++ke,∀ j,∀ x ∈ dz w ((ks.map (·.2)).take j),P x:=by
  intro w Pc j x hx
  rcases Ci hx with rfl | ⟨l,h1,h2⟩
  . exact hw _ Pc
  . obtain ⟨y,hy,rfl⟩:=List.mem_map.1 (List.mem_of_mem_take h1)
    exact hk y hy x h2
 have eO:∀ w ∈ ni++ke,∀ x ∈ dz w (ks.map (·.2)),P x:=by
  intro w Pc x hx
  exact hs w Pc ks.length x (by rw [qC (by simp)]; exact hx)
 have hq:∀ x ∈ dz cH (ks.map fun x=>eK x.1 1 x.2),P x:=by
  intro x hx
  rcases Ci hx with rfl | ⟨l,h1,h2⟩
  . exact hw _ (by decide)
  . obtain ⟨y,hy,rfl⟩:=List.mem_map.1 h1
    rcases Ky h2 with rfl | rfl | h
    . exact hw _ (by decide)
    . exact hw _ (by decide)
    . exact hk y hy x h
 have afq:∀ k,P (aC (kN k)):=by
  intro k
  unfold kN
  repeat' split
  all_goals exact hw _ (by decide)
 have HJ:∀ c:Prop,[Decidable c]->P (aC (if c then ga else eg)):=by
  intro c _
  split <;> exact hw _ (by decide)
 intro x hx
 have W:∀ w ∈ ni++ke,x=aC w->P x:=fun w Pc e=>e ▸ hw w Pc
 have key:(∀ j,x ∈ (ks.getD j (0,[])).2->P x)/\(∀ l j,x ∈ eK (ks.getD j (0,[])).1 l (ks.getD j (0,[])).2->P x):=⟨fun j=>hg j x,fun l j=>hb l j x⟩
 unfold bw at hx
 simp only at hx
 have l8:(k=2\/k=3\/k=4\/k=5\/k=12\/k=13\/k=14\/k=16\/k=31\/k=32\/k=33\/k=37\/k=34)->P (eF t):=by
  intro h
  apply ht
  rcases h with rfl | rfl | rfl | rfl | rfl | rfl | rfl | rfl | rfl | rfl | rfl | rfl | rfl <;> (simp [bC] at hf; rw [<- hf])
 repeat' (refine X3 hx (fun c hx=>?_) (fun c hx=>?_))
 all_goals try simp only [ix,gn,cD,fS,List.not_mem_nil,or_false,false_or] at hx
 all_goals try exact hx.elim
 all_goals repeat' (refine Or.elim hx (fun hx=>?_) (fun hx=>?_))
 all_goals first
  | (subst hx; first | exact hw _ (by decide) | exact hn | exact hm | exact afq _ | exact HJ _ | exact l8 (by omega))
  | exact hg _ _ hx
  | exact hb _ _ _ hx
  | exact hs _ (by decide) _ _ hx
  | exact eO _ (by decide) _ hx
  | exact hq _ hx
theorem GM:∀ (N:Nat) (t:Tre),t.flat.length <= N->t.ok=true->∀ x ∈ t.pr,mT x
 | 0,t,hN,_=>by have:=t.ef; omega
 | N+1,.mk k tx n m a ks,hN,ho=>by
   obtain ⟨fo,ep,h1,h2,h3⟩:=Tre.rC ho
   have hlen:(Tre.bG ks).length+1=(Tre.mk k tx n m a ks).flat.length:=by rw [Tre.fp]; simp
   obtain ⟨f1,f2,f3,f4,f5,f6⟩:=iq h1
   rw [Tre.fi]
   refine P6 ep aeG (fun e=>adT (f2 e).2 (f2 e).1) (WG f3) (WG f4) fun y hy=>?_
   obtain ⟨t,ht,rfl⟩:=List.mem_map.1 hy
   have:=Tre.uu ht
   exact GM N t (by omega) (h3 t ht)
end Go.Rip
namespace Go.Rip
def ib:List Tre->aK->aK × Int
 | [],acc=>if 2500 < acc.length then ([],5) else (acc,0)
 | t::ts,acc=>if (fy t.pr).2 ≠ 0 then ([],(fy t.pr).2) else ib ts (acc++(fy t.pr).1++[10])
def oZ (t:Tre):aK × Int:=if t.kind ≠ 1 then fy t.pr else ib t.kids []
def lP (ts:List Tre):aK:=ts.flatMap fun t=>dh t.pr++[10]
def nS (ts:List Tre):List Tx:=ts.flatMap Tre.pr
theorem Gc {l:List Tx} (h:(fy l).2=0):(fy l).1=dh l/\l.length <= 900/\(dh l).length <= 2500:=by
 unfold fy at h ⊢
 split at h
 . cases h
 . rename_i h1
   split at h
   . cases h
   . rename_i h2
     rw [if_neg h1,if_neg h2]
     exact ⟨rfl,by omega,by omega⟩
theorem Jr:∀ (ts:List Tre) (acc:aK),(ib ts acc).2=0->(ib ts acc).1=acc++lP ts/\(acc++lP ts).length <= 2500
 | [],acc,h=>by
   unfold ib at h ⊢
   split at h
   . cases h
   . rename_i h1
     rw [if_neg h1]
     exact ⟨by simp [lP],by simp [lP]; omega⟩
 | t::ts,acc,h=>by
   unfold ib at h ⊢
   split at h
   . exact absurd h ‹_›
   . rename_i h1
     rw [if_neg h1]
     have h1:=Decidable.not_not.1 h1
     obtain ⟨e,_,_⟩:=Gc h1
     have:=Jr ts _ h
     rw [e] at this ⊢
     simpa [lP] using this
theorem Ik {t:Tre} (ho:t.ok=true) (hk:iQ t.kind=true):∃ w r,t.pr=aC w::r/\w ∈ [dI,ga,eg]:=by
 cases t with
 | mk k x n m a ks =>
   rw [Tre.fi]
   have hk:k=2\/k=3\/k=4:=by
    have h:2 <= k/\k <= 4:=of_decide_eq_true hk
    omega
   rcases hk with rfl | rfl | rfl
   . exact ⟨dI,_,rfl,by decide⟩
   . exact ⟨ga,_,rfl,by decide⟩
   . exact ⟨eg,_,rfl,by decide⟩
theorem XZ {L:List Tk} {i:Nat} {w:aK} {l:List Tx} (hw:w ∈ [dI,ga,eg]) (h:At L i (aC w::l)):tj L i=true:=by
 unfold tj
 simp only [cD,List.not_mem_nil,or_false] at hw
 rcases hw with rfl | rfl | rfl <;> simp [fw h]
theorem FH {s:aK}:∀ (ts:List Tre) (acc:List Tk) (p f:Nat),(∀ t ∈ ts,t.ok=true)->s.drop p=lP ts->s.length - p <= f->acc.length <= 900 ->
 (acc.length+(nS ts).length <= 900->∃ l,l.map tx=nS ts/\fL f s p acc=.ok (acc++l))/\(900 < acc.length+(nS ts).length->∃ q,fL f s p acc=.bad q 5)
 | [],acc,p,f,ho,hs,hf,ha=>by
   refine ⟨fun _=>⟨[],rfl,?_⟩,fun h=>by simp [nS] at h; omega⟩
   cases f with
   | zero=>simp [fL]
   | succ f =>
     have hs:s.drop p=[]:=hs
     rw [fL,hs]; simp
 | t::ts,acc,p,f,ho,hs,hf,ha=>by
   have hs:s.drop p=dh t.pr++(10::lP ts):=by rw [hs]; simp [lP]
   obtain ⟨k1,k2⟩:=FI (s:=s) t.pr acc p f (10::lP ts) (GM _ t (cX _) (ho t (by simp))) hs (.inr ⟨_,rfl⟩) hf ha
   have hx:(nS (t::ts)).length=t.pr.length+(nS ts).length:=by simp [nS]
   rw [hx]
   by_cases h9:acc.length+t.pr.length <= 900
   . obtain ⟨l0,f',e0,km,e1⟩:=k1 h9
     have qO:l0.length=t.pr.length:=by rw [<- e0]; simp
     have hd:=BV hs
     have hdl:=xo hd (by simp)
     simp only [gU] at hdl
     obtain ⟨f',rfl⟩:∃ g,f'=g+1:=⟨f' - 1,by omega⟩
     rw [e1,FG hd (.inr rfl)]
     have sT:s.drop (p+(dh t.pr).length+1)=lP ts:=by rw [<- List.drop_drop,hd]; rfl
     obtain ⟨m1,m2⟩:=FH ts (acc++l0) (p+(dh t.pr).length+1) f' (fun u hu=>ho u (by simp [hu])) sT (by omega) (by simp; omega)
     refine ⟨fun h=>?_,fun h=>?_⟩
     . obtain ⟨l,e2,e3⟩:=m1 (by rw [df,qO]; omega)
       exact ⟨l0++l,by rw [List.map_append,e0,e2]; rfl,by rw [e3,gn]⟩
     . exact m2 (by rw [df,qO]; omega)
   . exact ⟨fun h=>by omega,fun _=>k2 (by omega)⟩
theorem SN {x:Tx} (h:mT x):∀ c ∈ x.2,lH c=true:=by
 have aln:∀ c,dm c=true->lH c=true:=by
  intro c hc
  simp only [dm,gJ,lI,GG,lH,jM,dS] at hc ⊢
  omega
 obtain ⟨c,r,e,_,_,_,_,_,h4,hn⟩:=DF h
 by_cases h':x.1=4
 . have key:∀ w ∈ ke,∀ c ∈ w,lH c=true:=by decide
   exact key _ (h4 h').2
 . intro c hc
   exact aln c (fl.1 (hn h').1 c hc)
theorem Ge:∀ (l:List Tx),(∀ x ∈ l,mT x)->∀ c ∈ dh l,lH c=true
 | [],_,c,h=>by simp [dh] at h
 | [a],ho,c,h=>SN (ho a (by simp)) c h
 | a::b::l,ho,c,h=>by
   rw [pI,fS,fS] at h
   rcases h with (h | h) | h
   . exact SN (ho a (by simp)) c h
   . split at h
     . rw [jz] at h; subst h; decide
     . cases h
   . exact Ge (b::l) (fun x hx=>ho x (by simp only [cD] at hx ⊢; exact .inr hx)) c h
theorem X7 {ts:List Tre} (ho:∀ t ∈ ts,t.ok=true):∀ c ∈ lP ts,lH c=true:=by
 intro c hc
 obtain ⟨t,ht,h⟩:=List.mem_flatMap.1 hc
 rw [fS,jz] at h
 rcases h with h | rfl
 . exact Ge _ (GM _ t (cX _) (ho t ht)) c h
 . decide
theorem Yd {ts:List Tre} (ho:∀ t ∈ ts,t.ok=true) (hl:(lP ts).length <= 2500) :
 ((nS ts).length <= 900->∃ l,l.map tx=nS ts/\jY (lP ts)=.ok l)/\(900 < (nS ts).length->∃ q,jY (lP ts)=.bad q 5):=by
 have hc:te (lP ts)=(0,0):=by
  unfold te
  rw [if_neg (by omega)]
  have:(lP ts).findIdx? (fun c=>!lH c)=none:=by
   rw [List.findIdx?_eq_none_iff]
   intro c hc
   simp [X7 ho c hc]
  rw [this]
 obtain ⟨k1,k2⟩:=FH (s:=lP ts) ts [] 0 (lP ts).length ho rfl (by omega) (by simp)
 have he:jY (lP ts)=fL (lP ts).length (lP ts) 0 []:=by unfold jY; rw [hc]; simp
 rw [he]
 simp only [lB,cU,jN] at k1 k2
 exact ⟨k1,k2⟩
theorem Im {L:List Tk} {E:Nat}:∀ (ts:List Tre) (acc:List Nd) (i f:Nat),(∀ t ∈ ts,t.ok=true/\iQ t.kind=true/\t.flat.length <= 900)->At L i (nS ts)->i+(nS ts).length=L.length->L.length - i < f->∃ ns,bz ns=bz (Tre.bG ts)/\pc L E f acc i=.ok (acc++ns) L.length
 | [],acc,i,f,ho,hi,hl,hf=>by
   obtain ⟨f,rfl⟩:∃ g,f=g+1:=⟨f - 1,by omega⟩
   have hl:i=L.length:=hl
   refine ⟨[],by simp,?_⟩
   rw [pc,if_neg (by omega),hl]; simp
 | t::ts,acc,i,f,ho,hi,hl,hf=>by
   obtain ⟨f,rfl⟩:∃ g,f=g+1:=⟨f - 1,by omega⟩
   obtain ⟨h1,h2,h3⟩:=ho t (by simp)
   have hx:nS (t::ts)=t.pr++nS ts:=rfl
   rw [hx] at hi hl
   rw [df] at hl
   obtain ⟨w,r,hw,_⟩:=Ik h1 h2
   have rq:0 < t.pr.length:=by rw [hw]; simp
   have ep:i+t.pr.length=L.length\/tj L (i+t.pr.length)=true:=by
    cases ts with
    | nil=>left; simp [nS] at hl; exact hl
    | cons u us =>
      right
      obtain ⟨k1,k2,k3⟩:=ho u (by simp)
      obtain ⟨w,r,hw,hm⟩:=Ik k1 k2
      have:=hi.app.2
      rw [show nS (u::us)=u.pr++nS us from rfl,hw] at this
      exact XZ hm this
   obtain ⟨n0,b0,p0⟩:=Pr (L:=L) (E:=E) h3 h1 h2 i hi.app.1 ep (fuel L) (by unfold fuel; omega) (by unfold fuel; omega)
   obtain ⟨ns,b1,p1⟩:=Im ts (acc++n0) (i+t.pr.length) f (fun u hu=>ho u (by simp [hu])) hi.app.2 (by omega) (by omega)
   refine ⟨n0++ns,by rw [Tre.cS]; exact gD b0 b1,?_⟩
   rw [pc,if_pos (by omega),p0,aU,p1,gn]
theorem adb {l:List Nd} {i:Nat}:(bz l)[i]?=l[i]?.map fun x=>{ x with at_:=0 }:=by simp [bz]
theorem E6:∀ (l:List Nd) (n:Nat) (es:List Int),ir (bz l) n es=ir l n es
 | [],n,es=>rfl
 | x::l,n,es=>by
   show ir ({ x with at_:=0 }::bz l) n es=_
   rw [ir,ir,E6 l]
theorem Ld (l:List Nd) (en:Int):∀ (f p:Nat),fj (bz l) en f p=fj l en f p
 | 0,p=>rfl
 | f+1,p=>by
   rw [fj,fj,adb]
   cases l[p]? with
   | none=>rfl
   | some x=>simp only [Option.map_some,Ld l en f]
theorem OH {a b:List Nd} (h:bz a=bz b):ji a=ji b:=by
 have key:∀ l,ji (bz l)=ji l:=by
  intro l
  unfold ji
  rw [E6,Ld]
  have:lK (bz l)=lK l:=by cases l <;> rfl
  rw [this]
  simp [bz]
 rw [<- key a,<- key b,h]
end Go.Rip
