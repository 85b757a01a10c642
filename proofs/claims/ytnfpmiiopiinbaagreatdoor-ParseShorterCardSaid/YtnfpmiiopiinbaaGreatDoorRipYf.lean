/- Lemmas for the proof: no conditions. -/
import Derived.Test.YtnfpmiiopiinbaaGreatDoorRipZz
import Derived.Test.YtnfpmiiopiinbaaGreatDoorRipYe
set_option linter.unusedVariables false
set_option linter.unusedSimpArgs false
set_option linter.loopingSimpArgs false
namespace Go.Rip
theorem Tre.QK:∀ ts:List Tre,Tre.QJ ts=ts.map fun t=>(t.kind,t.pr)
 | []=>by rw [Tre.QJ]; rfl
 | t::ts=>by rw [Tre.QJ,Tre.QK ts]; rfl
theorem Tre.cu (k:Int) (x:aG) (n m a:Int) (ks:List Tre):(Tre.mk k x n m a ks).pr=aU k x n m (ks.map fun t=>(t.kind,t.pr)):=by rw [Tre.pr,Tre.QK]
theorem Tre.nR (k:Int) (x:aG) (n m a:Int) (ks:List Tre):(Tre.mk k x n m a ks).flat=node k x n m a (Tre.bq ks):=by rw [Tre.flat]
theorem Tre.L5:∀ {ts:List Tre},Tre.sY ts=true->∀ t ∈ ts,t.ok=true
 | [],_,t,h=>by cases h
 | t::ts,h,u,hu=>by
   rw [Tre.sr,bS] at h
   rcases cJ.1 hu with rfl | hu
   . exact h.1
   . exact Tre.L5 h.2 u hu
theorem Tre.rB {k:Int} {x:aG} {n m a:Int} {ks:List Tre} (h:(Tre.mk k x n m a ks).ok=true):∃ f,bA k=some f/\eg ⟨k,x,n,m,a,0⟩ f=true/\dP (ks.map Tre.kind) f.kids=true/\∀ t ∈ ks,t.ok=true:=by
 rw [Tre.ok,bS] at h
 obtain ⟨h1,h2⟩:=h
 split at h1
 . rename_i f hf
   rw [bS] at h1
   exact ⟨f,hf,h1.1,h1.2,Tre.L5 h2⟩
 . cases h1
theorem Tre.uA {ks:List Tre} {t:Tre} (h:t ∈ ks):t.flat.length <= (Tre.bq ks).length:=by
 obtain ⟨a,b,rfl⟩:=List.append_of_mem h
 rw [Tre.eW,Tre.cx]; simp; omega
theorem Tre.QL (ks:List Tre) (f:Tre->List Tx):Pt.all (ks.map fun t=>(f t,t.flat))=Tre.bq ks:=by
 induction ks with
 | nil=>rfl
 | cons t ks ih =>
   rw [Tre.cx,<- ih]
   simp [Pt.all]
theorem mY {c:iQ} {ks:List Tre} (h:dP (ks.map Tre.kind) [⟨c,1,1⟩]=true):∃ a,ks=[a]/\c.is a.kind=true:=by
 rw [AB] at h
 match ks,h with
 | [],h=>simp at h
 | [a],h=>exact ⟨a,rfl,by simpa using h⟩
 | a::b::r,h=>simp at h
theorem xX {c:iQ} {ks:List Tre} (h:dP (ks.map Tre.kind) [⟨c,2,2⟩]=true):∃ a b,ks=[a,b]/\c.is a.kind=true/\c.is b.kind=true:=by
 rw [AB] at h
 match ks,h with
 | [],h=>simp at h
 | [a],h=>simp at h
 | [a,b],h=>exact ⟨a,b,rfl,by simpa using h⟩
 | a::b::c::r,h=>simp at h
theorem WY {c:iQ} {ks:List Tre} (h:dP (ks.map Tre.kind) [⟨c,3,3⟩]=true):∃ a b d,ks=[a,b,d]/\c.is a.kind=true/\c.is b.kind=true/\c.is d.kind=true:=by
 rw [AB] at h
 match ks,h with
 | [],h=>simp at h
 | [a],h=>simp at h
 | [a,b],h=>simp at h
 | [a,b,d],h=>exact ⟨a,b,d,rfl,by simpa using h⟩
 | a::b::c::d::r,h=>simp at h
theorem AH {c:iQ} {lo hi:Nat} {ks:List Tre} (h:dP (ks.map Tre.kind) [⟨c,lo,hi⟩]=true):lo <= ks.length/\∀ t ∈ ks,c.is t.kind=true:=by
 rw [AB] at h
 simp only [bS,ee,List.length_map,fe,List.mem_map,forall_exists_index,and_imp,forall_apply_eq_imp_iff₂] at h
 exact ⟨h.1.1,h.2⟩
theorem mC {α:Type}:∀ {l:List α},1 <= l.length->∃ r x,l=r++[x]:=fun {l} h=>⟨l.dropLast,l.getLast (by intro e; subst e; simp at h),(List.dropLast_concat_getLast _).symm⟩
theorem De {c d:iQ} {lo:Nat} {ks:List Tre} (hl:ks.length <= 901) (h:dP (ks.map Tre.kind) [⟨c,lo,900⟩,⟨d,1,1⟩]=true):∃ ps b,ks=ps++[b]/\lo <= ps.length/\(∀ t ∈ ps,c.is t.kind=true)/\d.is b.kind=true:=by
 have:=Bd ⟨c,lo,900⟩ [d] (ks.map Tre.kind) (by simpa using hl)
 rw [show (⟨c,lo,900⟩::[d].map fun c=>(⟨c,1,1⟩:lF))=[⟨c,lo,900⟩,⟨d,1,1⟩] from rfl] at this
 rw [this] at h
 simp only [bS,ee,List.length_map,fm,ko] at h
 obtain ⟨h1,h2,h3⟩:=h
 obtain ⟨ps,b,rfl⟩:=mC (l:=ks) (by omega)
 simp only [cM,fm,ko,df,Nat.add_sub_cancel,List.map_append] at h1 h2 h3
 rw [List.take_left' (by simp)] at h2
 rw [List.drop_left' (by simp)] at h3
 have h3:dP ([b].map Tre.kind) [⟨d,1,1⟩]=true:=h3
 obtain ⟨b',e,h3⟩:=mY h3
 obtain rfl:b=b':=by simpa using e
 exact ⟨ps,b,rfl,by omega,by simpa using h2,h3⟩
theorem LK {c d:iQ} {ks:List Tre} (h:dP (ks.map Tre.kind) [⟨c,1,1⟩,⟨d,1,1⟩]=true):∃ a b,ks=[a,b]/\c.is a.kind=true/\d.is b.kind=true:=by
 have hl:=oA [c,d] _ h
 match ks,hl with
 | [a,b],_ =>
   have:=wB c [d] a.kind [b.kind] rfl
   have h:dP (a.kind::[b.kind]) (⟨c,1,1⟩::[d].map fun c=>⟨c,1,1⟩)=true:=h
   rw [this,bS] at h
   obtain ⟨b',e,h3⟩:=mY (ks:=[b]) (c:=d) h.2
   obtain rfl:b=b':=by simpa using e
   exact ⟨a,b,rfl,h.1,h3⟩
theorem LL {c d e:iQ} {ks:List Tre} (h:dP (ks.map Tre.kind) [⟨c,1,1⟩,⟨d,1,1⟩,⟨e,1,1⟩]=true):∃ a b g,ks=[a,b,g]/\c.is a.kind=true/\d.is b.kind=true/\e.is g.kind=true:=by
 have hl:=oA [c,d,e] _ h
 match ks,hl with
 | [a,b,g],_ =>
   have:=wB c [d,e] a.kind [b.kind,g.kind] rfl
   have h:dP (a.kind::[b.kind,g.kind]) (⟨c,1,1⟩::[d,e].map fun c=>⟨c,1,1⟩)=true:=h
   rw [this,bS] at h
   obtain ⟨b',g',e',h3,h4⟩:=LK (ks:=[b,g]) (c:=d) (d:=e) h.2
   simp only [List.cons.injEq,and_true] at e'
   obtain ⟨rfl,rfl⟩:=e'
   exact ⟨a,b,g,rfl,h.1,h3,h4⟩
theorem xY {c d e:iQ} {lo:Nat} {ks:List Tre} (hl:ks.length <= 902) (h:dP (ks.map Tre.kind) [⟨c,lo,900⟩,⟨d,1,1⟩,⟨e,1,1⟩]=true):∃ ps a b,ks=ps++[a,b]/\lo <= ps.length/\(∀ t ∈ ps,c.is t.kind=true)/\d.is a.kind=true/\e.is b.kind=true:=by
 have:=Bd ⟨c,lo,900⟩ [d,e] (ks.map Tre.kind) (by simpa using hl)
 rw [show (⟨c,lo,900⟩::[d,e].map fun c=>(⟨c,1,1⟩:lF))=[⟨c,lo,900⟩,⟨d,1,1⟩,⟨e,1,1⟩] from rfl] at this
 rw [this] at h
 simp only [bS,ee,List.length_map,fm,ko] at h
 obtain ⟨h1,h2,h3⟩:=h
 obtain ⟨qs,b,rfl⟩:=mC (l:=ks) (by omega)
 obtain ⟨ps,a,rfl⟩:=mC (l:=qs) (by simp at h1; omega)
 have e2:(ps++[a]++[b]).length - (0+1+1)=ps.length:=by simp
 rw [e2] at h2 h3
 simp only [List.map_append,gi] at h2 h3
 rw [List.take_left' (by simp)] at h2
 rw [List.drop_left' (by simp)] at h3
 have h3:dP ([a,b].map Tre.kind) [⟨d,1,1⟩,⟨e,1,1⟩]=true:=h3
 obtain ⟨a',b',e',h3,h4⟩:=LK h3
 simp only [List.cons.injEq,and_true] at e'
 obtain ⟨rfl,rfl⟩:=e'
 exact ⟨ps,a,b,by simp,by simp at h1; omega,by simpa using h2,h3,h4⟩
theorem ir {k:Int} {x:aG} {n m a z:Int} {f:gl} (h:eg ⟨k,x,n,m,a,z⟩ f=true):(f.text=false->x=[])/\(f.text=true->x ≠ []/\kL x=true)/\dH n=true/\dH m=true/\(f.n=false->n=0)/\(f.m=false->m=0):=by
 simp only [eg,bS,jW,beq_iff_eq] at h
 obtain ⟨⟨⟨⟨⟨h1,h2⟩,h3⟩,h4⟩,h5⟩,h6⟩:=h
 refine ⟨fun e=>?_,fun e=>⟨?_,?_⟩,h3,h4,fun e=>?_,fun e=>?_⟩
 . rw [e] at h1; simpa using h1.symm
 . rw [e] at h1; simpa using h1.symm
 . rw [e] at h2; simpa using h2
 . rw [e] at h5; simpa using h5
 . rw [e] at h6; simpa using h6
end Go.Rip
namespace Go.Rip
section
variable {L:List Tk} {E:Nat}
theorem y8 {t:Tre} (ho:t.ok=true) (hk:oM t.kind=true):j6 L (fun i=>fM L E i) t.pr t.flat/\∀ f,j6 L (fun i=>jh L E f i) t.pr t.flat:=by
 cases t with
 | mk k x n m a ks =>
   have o0:k=6\/k=7:=of_decide_eq_true hk
   obtain ⟨f,hf,h1,h2,_⟩:=Tre.rB ho
   have kD:f=⟨false,true,false,[]⟩:=by rcases o0 with rfl | rfl <;> simpa [bA] using hf.symm
   subst kD
   obtain ⟨e1,_,hn,_,_,e2⟩:=ir h1
   have e1:=e1 rfl
   have e2:=e2 rfl
   have iE:ks=[]:=by
    have:(ks.map Tre.kind).isEmpty=true:=h2
    simpa using this
   subst e1 e2 iE
   have hp:(Tre.mk k [] n 0 a []).pr=As k n:=by
    rw [Tre.cu]
    rcases o0 with rfl | rfl <;> simp [aU,As]
   rw [hp,Tre.nR,Tre.mq]
   exact ⟨KY o0 hn,fun f=>Qd o0 hn⟩
theorem GA {t:Tre} (ho:t.ok=true) (hk:pE t.kind=true) {f:Nat} (hf:L.length < f):j6 L (fun i=>jh L E f i) t.pr t.flat:=by
 by_cases hb:oM t.kind=true
 . exact (y8 ho hb).2 f
 cases t with
 | mk k x n m a ks =>
   have hk:k=8:=by
    have h1:k=6\/k=7\/k=8:=of_decide_eq_true hk
    have h2:¬ (k=6\/k=7):=fun e=>hb (decide_eq_true e)
    omega
   subst hk
   obtain ⟨fo,ey,h1,h2,h3⟩:=Tre.rB ho
   obtain rfl:(⟨false,false,false,[⟨.base,2,900⟩]⟩:gl)=fo:=by simpa [bA] using ey
   obtain ⟨e1,_,_,_,e2,e3⟩:=ir h1
   have e1:=e1 rfl
   have e2:=e2 rfl
   have e3:=e3 rfl
   subst e1 e2 e3
   obtain ⟨hl,hb⟩:=AH h2
   obtain ⟨ps,b,rfl⟩:=mC (l:=ks) (by omega)
   have tD:1 <= ps.length:=by simp at hl; omega
   obtain ⟨p,ps,rfl⟩:∃ p q,ps=p::q:=by
    cases ps with
    | nil=>simp at tD
    | cons p q=>exact ⟨p,q,rfl⟩
   have cm:∀ t ∈ p::ps++[b],j6 L (fun i=>fM L E i) t.pr t.flat:=fun t ht=>(y8 (h3 t ht) (hb t ht)).1
   have key:=Nz (L:=L) (E:=E) (a:=a) (p:=(p.pr,p.flat)) (P:=ps.map fun t=>(t.pr,t.flat)) hf (fun q hq=>by
    have hq:q ∈ (p::ps).map fun t=>(t.pr,t.flat):=hq
    obtain ⟨t,ht,rfl⟩:=List.mem_map.1 hq
    exact cm t (List.mem_append_left _ ht)) (cm b (by simp))
   have hp:(Tre.mk 8 [] 0 0 a (p::ps++[b])).pr=az cB::(cX cw (((p.pr,p.flat)::ps.map fun t=>(t.pr,t.flat)).map Prod.fst)++az cg::az fF::b.pr):=by
    rw [Tre.cu]
    have e:(p::ps++[b]).map (fun t=>(t.kind,t.pr))=((p::ps).map fun t=>(t.kind,t.pr))++[(b.kind,b.pr)]:=by simp
    rw [e]
    generalize hq:(p::ps).map (fun t=>(t.kind,t.pr))=q
    have e2:(p.pr,p.flat)::ps.map (fun t=>(t.pr,t.flat))=(p::ps).map fun t=>(t.pr,t.flat):=rfl
    rw [e2,List.map_map]
    have e3:(p::ps).map (Prod.fst ∘ fun t=>(t.pr,t.flat))=q.map (·.2):=by rw [<- hq,List.map_map]; rfl
    rw [e3]
    simp [aU,nG]
   have e2:(p.pr,p.flat)::ps.map (fun t=>(t.pr,t.flat))=(p::ps).map fun t=>(t.pr,t.flat):=rfl
   rw [e2,Tre.QL] at key
   rw [hp,Tre.nR,Tre.eW,e2]
   simpa using key
theorem NY {t:Tre} (ho:t.ok=true) (hk:t.kind=5) {f:Nat} (hf:L.length < f):j6 L (fun i=>jx L E f i) t.pr t.flat/\∃ c r,t.pr=eC c::r:=by
 cases t with
 | mk k x n m a ks =>
   obtain rfl:k=5:=hk
   obtain ⟨fo,ey,h1,h2,h3⟩:=Tre.rB ho
   obtain rfl:(⟨true,false,false,[⟨.type,1,1⟩]⟩:gl)=fo:=by simpa [bA] using ey
   obtain ⟨_,_,_,_,e2,e3⟩:=ir h1
   have e2:=e2 rfl
   have e3:=e3 rfl
   subst e2 e3
   obtain ⟨b,rfl,hb⟩:=mY h2
   have hp:(Tre.mk 5 x 0 0 a [b]).pr=eC x::az cW::b.pr:=by rw [Tre.cu]; simp [aU]
   rw [hp,Tre.nR]
   exact ⟨by simpa using U9 (a:=a) (x:=x) (GA (h3 b (by simp)) hb hf),_,_,rfl⟩
theorem E9 {t:Tre} (ho:t.ok=true) (hk:t.kind=37):j6 L (fun i=>kW L E i) t.pr t.flat:=by
 cases t with
 | mk k x n m a ks =>
   obtain rfl:k=37:=hk
   obtain ⟨fo,ey,h1,h2,h3⟩:=Tre.rB ho
   obtain rfl:(⟨true,false,false,[]⟩:gl)=fo:=by simpa [bA] using ey
   obtain ⟨_,_,_,_,e2,e3⟩:=ir h1
   have e2:=e2 rfl
   have e3:=e3 rfl
   have iE:ks=[]:=by
    have:(ks.map Tre.kind).isEmpty=true:=h2
    simpa using this
   subst e2 e3 iE
   have hp:(Tre.mk 37 x 0 0 a []).pr=[eC x]:=by rw [Tre.cu]; simp [aU]
   rw [hp,Tre.nR,Tre.mq]
   exact X2
theorem Un {k a:Int} {A B:Tre} (hk:k ∈ nU) (h8:k ≠ 25) (gA:Good L E A.kind A.pr A.flat) (gB:Good L E B.kind B.pr B.flat) :
 Good L E k (dL A.kind (if bJ k=5 then 6 else bJ k) A.pr++az (jP k)::dL B.kind (bJ k+1) B.pr) (node k [] 0 0 a (A.flat++B.flat)):=by
 have hop:∀ y r',az (jP k)::dL B.kind (bJ k+1) B.pr=y::r'->NO y:=by
  intro y r' e
  obtain ⟨rfl,_⟩:=List.cons.inj e
  simp only [nU,cJ,List.not_mem_nil,or_false] at hk
  rcases hk with rfl | rfl | rfl | rfl | rfl | rfl | rfl | rfl <;> decide
 have hl:(bJ k=2\/bJ k=3\/bJ k=6\/bJ k=7)\/bJ k=5:=by
  simp only [nU,cJ,List.not_mem_nil,or_false] at hk
  rcases hk with rfl | rfl | rfl | rfl | rfl | rfl | rfl | rfl
  all_goals first
   | exact absurd rfl h8
   | decide
 have hd:Hd (bJ k) (dL A.kind (if bJ k=5 then 6 else bJ k) A.pr++az (jP k)::dL B.kind (bJ k+1) B.pr):=by
  refine (Hd.app (gA.MD) hop).low ?_
  split <;> omega
 rcases hl with hl | hl
 . rw [if_neg (by omega)] at hd ⊢
   exact Lg (by omega) (aaT hk (by omega) (by omega) (gA.aaQ (by omega)) (gB.ME (by omega) (bT _) (by omega)) (by omega)) hd
 . rw [if_pos hl] at hd ⊢
   have:=YR (a:=a) hk hl (gA.ME (lev:=6) (least:=6) (by omega) (by omega) (by omega)) (gB.ME (lev:=6) (least:=bJ k+1) (by omega) (by omega) (by omega))
   exact AD (by omega) (hl.symm ▸ this) hd (by omega)
theorem lB {lev:Nat} {w:aG} {l:List Tx} (h1:az w ∉ BW) (h2:2 <= lev->az w ∉ Eb) (h3:5 <= lev->az w ≠ az pK):Hd lev (az w::l) :=
 ⟨_,_,rfl,.inr (.inr rfl),h1,fun e=>⟨h2 e,fun e1=>by rcases Mp (w:=w) with h | h <;> omega⟩,h3⟩
theorem Jd {x:aG}:eC x ∉ BW/\eC x ∉ Eb/\eC x ≠ az pK:=by
 refine ⟨?_,?_,?_⟩ <;> simp [BW,Eb,eC,az,qF,nf,dI,fH,dz,ox,fX,lh,il,gH,ig,pK,lT]
theorem Nc {lev:Nat} {x:aG} {l:List Tx} (h:2 <= lev->∀ y r',l=y::r'->NO y):Hd lev (eC x::l) :=
 ⟨_,_,rfl,.inl rfl,Jd.1,fun e=>⟨Jd.2.1,fun _=>h e⟩,fun _=>Jd.2.2⟩
theorem adQ {lev:Nat} {n:Int}:Hd lev [iI n] :=
 ⟨_,_,rfl,.inr (.inl rfl),by simp [BW,iI,az,qF,nf,dI,fH,dz,lT],fun _=>⟨by simp [Eb,iI,az,ox,fX,lh,il,gH,ig,lT],fun e=>by cases e⟩,fun _=>by simp [iI,az,pK,lT]⟩
theorem B3:∀ (N:Nat) (t:Tre),t.flat.length <= N->t.flat.length <= 900->t.ok=true->(cj t.kind=true->Good L E t.kind t.pr t.flat)/\(nz t.kind=true->xu L E t.pr t.flat)
 | 0,t,hN,_,_=>by have:=t.dE; omega
 | N+1,.mk k x n m a ks,hN,h9,ho=>by
   obtain ⟨fo,ey,h1,h2,h3⟩:=Tre.rB ho
   have hlen:(Tre.bq ks).length+1=(Tre.mk k x n m a ks).flat.length:=by rw [Tre.eA]; simp
   have ih:∀ t ∈ ks,cj t.kind=true->Good L E t.kind t.pr t.flat:=fun t ht=>by
    have:=Tre.uA ht
    exact (B3 N t (by omega) (by omega) (h3 t ht)).1
   have wR:∀ t ∈ ks,nz t.kind=true->xu L E t.pr t.flat:=fun t ht=>by
    have:=Tre.uA ht
    exact (B3 N t (by omega) (by omega) (h3 t ht)).2
   have sV:ks.length <= 900:=by have:=Tre.nS ks; omega
   have term:cj k=true->Good L E k (Tre.mk k x n m a ks).pr (Tre.mk k x n m a ks).flat:=by
    intro hk
    obtain ⟨f1,f2,f3,f4,f5,f6⟩:=ir h1
    rw [Tre.cu,Tre.nR]
    have hk:k=9\/k=10\/k=11\/k=12\/k=13\/k=14\/k=15\/k=16\/(k ∈ nU/\k ≠ 25)\/k=19\/k=25\/k=26\/(k=27\/k=28\/k=29\/k=30)\/k=31\/k=32\/k=33\/k=34:=by
     simp only [cj,ee] at hk
     simp only [nU,cJ,List.not_mem_nil,or_false]
     omega
    rcases hk with rfl | rfl | rfl | rfl | rfl | rfl | rfl | rfl | ⟨hk,um⟩ | rfl | rfl | rfl | hk | rfl | rfl | rfl | rfl
    . obtain rfl:(⟨false,false,false,[⟨.term,2,900⟩]⟩:gl)=fo:=by simpa [bA] using ey
      obtain rfl:=f1 rfl
      obtain rfl:=f5 rfl
      obtain rfl:=f6 rfl
      obtain ⟨hl,hc⟩:=AH h2
      match ks,hl with
      | p::q::ks,_ =>
        have g:∀ t ∈ p::q::ks,Good L E t.kind t.pr t.flat:=fun t ht=>ih t ht (hc t ht)
        have:=VM (L:=L) (E:=E) (a:=a) (p:=(dL p.kind 1 p.pr,p.flat)) (q:=(dL q.kind 1 q.pr,q.flat)) (P:=ks.map fun t=>(dL t.kind 1 t.pr,t.flat)) (fun y hy=>by
         have hy:y ∈ (p::q::ks).map fun t=>(dL t.kind 1 t.pr,t.flat):=hy
         obtain ⟨t,ht,rfl⟩:=List.mem_map.1 hy
         exact ⟨(g t ht).jz,(g t ht).MD.low (Nat.zero_le 1)⟩)
        have e2:(dL p.kind 1 p.pr,p.flat)::(dL q.kind 1 q.pr,q.flat)::ks.map (fun t=>(dL t.kind 1 t.pr,t.flat))=(p::q::ks).map fun t=>(dL t.kind 1 t.pr,t.flat):=rfl
        rw [e2,Tre.QL (f:=fun t=>dL t.kind 1 t.pr),List.map_map] at this
        have hp:aU 9 [] 0 0 ((p::q::ks).map fun t=>(t.kind,t.pr))=cX cn ((p::q::ks).map (Prod.fst ∘ fun t=>(dL t.kind 1 t.pr,t.flat))):=by
         simp only [aU,List.map_map]; rfl
        rw [hp]
        refine ⟨this,fun e=>absurd rfl e,fun e=>by exact absurd e (by decide),fun e=>by exact absurd e (by decide),?_⟩
        rw [eh,nV]
        refine Hd.app ((g p (by simp)).MD.low (by decide:bJ 9 <= 1)) fun y r' e=>?_
        rw [eh,List.flatMap_cons] at e
        obtain ⟨rfl,_⟩:=List.cons.inj e
        decide
    . obtain rfl:(⟨false,false,false,[⟨.term,3,3⟩]⟩:gl)=fo:=by simpa [bA] using ey
      obtain rfl:=f1 rfl
      obtain rfl:=f5 rfl
      obtain rfl:=f6 rfl
      obtain ⟨A,B,C,rfl,hA,hB,hC⟩:=WY h2
      have:=Uh (a:=a) (ih A (by simp) hA).jz (ih B (by simp) hB).jz (ih C (by simp) hC).jz
      refine n7 (by decide) (by simpa [aU] using this) ?_
      simp only [aU]
      exact lB (by decide) (by omega) (by omega)
    . obtain rfl:(⟨false,false,false,[⟨.term,2,2⟩]⟩:gl)=fo:=by simpa [bA] using ey
      obtain rfl:=f1 rfl
      obtain rfl:=f5 rfl
      obtain rfl:=f6 rfl
      obtain ⟨A,B,rfl,hA,hB⟩:=xX h2
      have:=Km (a:=a) (ih A (by simp) hA).jz (ih B (by simp) hB).jz
      refine n7 (by decide) (by simpa [aU] using this) ?_
      simp only [aU]
      exact lB (by decide) (by omega) (by omega)
    . obtain rfl:(⟨true,true,true,[⟨.term,1,1⟩]⟩:gl)=fo:=by simpa [bA] using ey
      obtain ⟨A,rfl,hA⟩:=mY h2
      have:=Pe (a:=a) (x:=x) f3 f4 (ih A (by simp) hA).jz
      refine n7 (by decide) (by simpa [aU] using this) ?_
      simp only [aU]
      exact lB (by decide) (by omega) (by omega)
    . obtain rfl:(⟨true,false,false,[⟨.term,2,2⟩]⟩:gl)=fo:=by simpa [bA] using ey
      obtain rfl:=f5 rfl
      obtain rfl:=f6 rfl
      obtain ⟨A,B,rfl,hA,hB⟩:=xX h2
      have:=Kl (a:=a) (x:=x) (ih A (by simp) hA).jz (ih B (by simp) hB).jz
      refine n7 (by decide) (by simpa [aU] using this) ?_
      simp only [aU]
      exact lB (by decide) (by omega) (by omega)
    . obtain rfl:(⟨true,true,false,[⟨.term,1,1⟩]⟩:gl)=fo:=by simpa [bA] using ey
      obtain rfl:=f6 rfl
      obtain ⟨A,rfl,hA⟩:=mY h2
      have:=HT (a:=a) (x:=x) f3 (ih A (by simp) hA).jz
      refine n7 (by decide) (by simpa [aU] using this) ?_
      simp only [aU]
      exact lB (by decide) (by omega) (by omega)
    . obtain rfl:(⟨false,false,false,[⟨.term,2,2⟩]⟩:gl)=fo:=by simpa [bA] using ey
      obtain rfl:=f1 rfl
      obtain rfl:=f5 rfl
      obtain rfl:=f6 rfl
      obtain ⟨A,B,rfl,hA,hB⟩:=xX h2
      have:=HS (a:=a) (ih A (by simp) hA).jz (ih B (by simp) hB).jz
      refine n7 (by decide) (by simpa [aU] using this) ?_
      simp only [aU]
      exact lB (by decide) (by omega) (by omega)
    . obtain rfl:(⟨true,false,false,[⟨.term,1,1⟩]⟩:gl)=fo:=by simpa [bA] using ey
      obtain rfl:=f5 rfl
      obtain rfl:=f6 rfl
      obtain ⟨A,rfl,hA⟩:=mY h2
      have:=Pf (a:=a) (x:=x) (ih A (by simp) hA).jz
      refine n7 (by decide) (by simpa [aU] using this) ?_
      simp only [aU]
      exact Nc (by omega)
    . have kD:fo=⟨false,false,false,[⟨.term,2,2⟩]⟩:=by
       simp only [nU,cJ,List.not_mem_nil,or_false] at hk
       rcases hk with rfl | rfl | rfl | rfl | rfl | rfl | rfl | rfl
       all_goals first
        | exact absurd rfl um
        | simpa [bA] using ey.symm
      subst kD
      obtain rfl:=f1 rfl
      obtain rfl:=f5 rfl
      obtain rfl:=f6 rfl
      obtain ⟨A,B,rfl,hA,hB⟩:=xX h2
      have:=Un (a:=a) hk um (ih A (by simp) hA) (ih B (by simp) hB)
      have hp:aU k [] 0 0 ([A,B].map fun t=>(t.kind,t.pr))=dL A.kind (if bJ k=5 then 6 else bJ k) A.pr++az (jP k)::dL B.kind (bJ k+1) B.pr:=by
       simp only [nU,cJ,List.not_mem_nil,or_false] at hk
       rcases hk with rfl | rfl | rfl | rfl | rfl | rfl | rfl | rfl
       all_goals first
        | exact absurd rfl um
        | simp [aU,bJ]
      rw [hp]
      simpa using this
    . obtain rfl:(⟨false,false,false,[⟨.term,1,1⟩]⟩:gl)=fo:=by simpa [bA] using ey
      obtain rfl:=f1 rfl
      obtain rfl:=f5 rfl
      obtain rfl:=f6 rfl
      obtain ⟨A,rfl,hA⟩:=mY h2
      have:=abK (a:=a) ((ih A (by simp) hA).ME (lev:=4) (least:=4) (by omega) (by omega) (by omega))
      refine AD (k:=19) (by decide) (show mG L E 4 _ _ from by simpa [aU] using this) ?_ (fun e=>absurd e (by decide))
      simp only [aU]
      exact lB (by decide) (fun _=>by decide) (fun e=>absurd e (by decide))
    . obtain rfl:(⟨false,true,false,[⟨.term,1,1⟩]⟩:gl)=fo:=by simpa [bA] using ey
      obtain rfl:=f1 rfl
      obtain rfl:=f6 rfl
      obtain ⟨A,rfl,hA⟩:=mY h2
      have g:=ih A (by simp) hA
      have:=ady (a:=a) f3 (g.aaQ (lev:=8) (by omega))
      refine Lg (k:=25) (by decide) (show tf L E 8 _ _ from by simpa [aU] using this) ?_
      have hp:aU 25 [] n 0 ([A].map fun t=>(t.kind,t.pr))=dL A.kind 8 A.pr++[az tu,iI n]:=by simp [aU]
      rw [hp]
      refine Hd.app g.MD fun y r' e=>?_
      obtain ⟨rfl,_⟩:=List.cons.inj e
      decide
    . obtain rfl:(⟨false,true,false,[]⟩:gl)=fo:=by simpa [bA] using ey
      obtain rfl:=f1 rfl
      obtain rfl:=f6 rfl
      obtain rfl:ks=[]:=by
       have:(ks.map Tre.kind).isEmpty=true:=h2
       simpa using this
      refine mr (by decide) (by simpa [aU] using TL (a:=a) f3) ?_
      simp only [aU]
      exact adQ
    . have kD:fo=⟨false,false,false,[]⟩:=by rcases hk with rfl | rfl | rfl | rfl <;> simpa [bA] using ey.symm
      subst kD
      obtain rfl:=f1 rfl
      obtain rfl:=f5 rfl
      obtain rfl:=f6 rfl
      obtain rfl:ks=[]:=by
       have:(ks.map Tre.kind).isEmpty=true:=h2
       simpa using this
      rcases hk with rfl | rfl | rfl | rfl
      . exact mr (by decide) (by simpa [aU] using uY (a:=a) (k:=27) (w:=dy) (by decide)) (by simp only [aU]; exact lB (by decide) (fun _=>by decide) (fun _=>by decide))
      . exact mr (by decide) (by simpa [aU] using uY (a:=a) (k:=28) (w:=dB) (by decide)) (by simp only [aU]; exact lB (by decide) (fun _=>by decide) (fun _=>by decide))
      . exact mr (by decide) (by simpa [aU] using uY (a:=a) (k:=29) (w:=fB) (by decide)) (by simp only [aU]; exact lB (by decide) (fun _=>by decide) (fun _=>by decide))
      . exact mr (by decide) (by simpa [aU] using uY (a:=a) (k:=30) (w:=gK) (by decide)) (by simp only [aU]; exact lB (by decide) (fun _=>by decide) (fun _=>by decide))
    . obtain rfl:(⟨true,false,false,[]⟩:gl)=fo:=by simpa [bA] using ey
      obtain rfl:=f5 rfl
      obtain rfl:=f6 rfl
      obtain rfl:ks=[]:=by
       have:(ks.map Tre.kind).isEmpty=true:=h2
       simpa using this
      refine mr (by decide) (by simpa [aU] using OE (a:=a)) ?_
      simp only [aU]
      exact lB (by decide) (fun _=>by decide) (fun _=>by decide)
    . obtain rfl:(⟨true,false,false,[]⟩:gl)=fo:=by simpa [bA] using ey
      obtain rfl:=f5 rfl
      obtain rfl:=f6 rfl
      obtain rfl:ks=[]:=by
       have:(ks.map Tre.kind).isEmpty=true:=h2
       simpa using this
      refine mr (by decide) (by simpa [aU] using TK (a:=a)) ?_
      simp only [aU]
      exact lB (by decide) (fun _=>by decide) (fun _=>by decide)
    . obtain rfl:(⟨true,false,false,[]⟩:gl)=fo:=by simpa [bA] using ey
      obtain rfl:=f5 rfl
      obtain rfl:=f6 rfl
      obtain rfl:ks=[]:=by
       have:(ks.map Tre.kind).isEmpty=true:=h2
       simpa using this
      refine mr (by decide) (by simpa [aU] using OF (a:=a)) ?_
      simp only [aU]
      exact Nc fun _ y r' e=>by cases e
    . obtain rfl:(⟨true,false,false,[⟨.arg,1,900⟩]⟩:gl)=fo:=by simpa [bA] using ey
      obtain rfl:=f5 rfl
      obtain rfl:=f6 rfl
      obtain ⟨hl,hc⟩:=AH h2
      match ks,hl with
      | p::ks,_ =>
        have:=OD (L:=L) (E:=E) (a:=a) (x:=x) (p:=(p.pr,p.flat)) (P:=ks.map fun t=>(t.pr,t.flat)) (fun y hy=>by
         have hy:y ∈ (p::ks).map fun t=>(t.pr,t.flat):=hy
         obtain ⟨t,ht,rfl⟩:=List.mem_map.1 hy
         exact wR t ht (hc t ht))
        have e2:(p.pr,p.flat)::ks.map (fun t=>(t.pr,t.flat))=(p::ks).map fun t=>(t.pr,t.flat):=rfl
        rw [e2,Tre.QL (f:=Tre.pr),List.map_map] at this
        have hp:aU 34 x 0 0 ((p::ks).map fun t=>(t.kind,t.pr))=eC x::az cB::cX cw ((p::ks).map (Prod.fst ∘ fun t=>(t.pr,t.flat)))++[az cg]:=by
         simp only [aU,List.map_map]; rfl
        rw [hp]
        refine mr (by decide) this (Nc fun _ y r' e=>?_)
        obtain ⟨rfl,_⟩:=List.cons.inj e
        decide
   refine ⟨term,fun hk=>?_⟩
   by_cases ht:cj k=true
   . exact (term ht).arg
   have hk:k=35\/k=36:=by
    have hk:nz k=true:=hk
    simp only [nz,cj,ee] at hk ht
    omega
   obtain ⟨f1,f2,f3,f4,f5,f6⟩:=ir h1
   rw [Tre.cu,Tre.nR]
   rcases hk with rfl | rfl
   . obtain rfl:(⟨false,false,false,[⟨.kind 37,1,900⟩,⟨.term,1,1⟩]⟩:gl)=fo:=by simpa [bA] using ey
     obtain rfl:=f1 rfl
     obtain rfl:=f5 rfl
     obtain rfl:=f6 rfl
     obtain ⟨ps,b,rfl,hl,tD,hb⟩:=De (by omega) h2
     obtain ⟨p,ps,rfl⟩:∃ p q,ps=p::q:=by
      cases ps with
      | nil=>simp at hl
      | cons p q=>exact ⟨p,q,rfl⟩
     have gb:=ih b (by simp) hb
     have key:=aaI (L:=L) (E:=E) (a:=a) (p:=(p.pr,p.flat)) (P:=ps.map fun t=>(t.pr,t.flat)) (fun q hq=>by
      have hq:q ∈ (p::ps).map fun t=>(t.pr,t.flat):=hq
      obtain ⟨t,ht,rfl⟩:=List.mem_map.1 hq
      exact E9 (h3 t (List.mem_append_left _ ht)) (by simpa [iQ.is] using tD t ht)) gb.jz
     have e2:(p.pr,p.flat)::ps.map (fun t=>(t.pr,t.flat))=(p::ps).map fun t=>(t.pr,t.flat):=rfl
     rw [e2,Tre.QL] at key
     have hp:aU 35 [] 0 0 ((p::ps++[b]).map fun t=>(t.kind,t.pr))=az qF::az cB::(cX cw (((p::ps).map fun t=>(t.pr,t.flat)).map Prod.fst)++az cg::dL b.kind 1 b.pr):=by
      have e:(p::ps++[b]).map (fun t=>(t.kind,t.pr))=((p::ps).map fun t=>(t.kind,t.pr))++[(b.kind,b.pr)]:=by simp
      rw [e]
      generalize hq:(p::ps).map (fun t=>(t.kind,t.pr))=q
      rw [List.map_map]
      have e3:(p::ps).map (Prod.fst ∘ fun t=>(t.pr,t.flat))=q.map (·.2):=by rw [<- hq,List.map_map]; rfl
      rw [e3]
      simp [aU,nG]
     rw [hp,Tre.eW]
     simpa using key
   . obtain rfl:(⟨false,false,false,[⟨.term,1,1⟩,⟨.kind 37,1,1⟩,⟨.term,1,1⟩]⟩:gl)=fo:=by simpa [bA] using ey
     obtain rfl:=f1 rfl
     obtain rfl:=f5 rfl
     obtain rfl:=f6 rfl
     obtain ⟨A,B,C,rfl,hA,hB,hC⟩:=LL h2
     have key:=Mx (a:=a) (ih A (by simp) hA).jz (E9 (E:=E) (h3 B (by simp)) (by simpa [iQ.is] using hB)) (ih C (by simp) hC).jz
     simpa [aU] using key
theorem P8 {t:Tre} (h9:t.flat.length <= 900) (ho:t.ok=true) (hk:iY t.kind=true):Hj L E t.pr t.flat:=by
 cases t with
 | mk k x n m a ks =>
   obtain ⟨fo,ey,h1,h2,h3⟩:=Tre.rB ho
   have hlen:(Tre.bq ks).length+1=(Tre.mk k x n m a ks).flat.length:=by rw [Tre.eA]; simp
   have sV:ks.length <= 900:=by have:=Tre.nS ks; omega
   obtain ⟨f1,f2,f3,f4,f5,f6⟩:=ir h1
   rw [Tre.cu,Tre.nR]
   have o0:k=2\/(k=3\/k=4):=by
    have hk:iY k=true:=hk
    simp only [iY,ee] at hk
    omega
   rcases o0 with rfl | o0
   . obtain rfl:(⟨true,false,false,[⟨.type,1,1⟩]⟩:gl)=fo:=by simpa [bA] using ey
     obtain rfl:=f5 rfl
     obtain rfl:=f6 rfl
     obtain ⟨b,rfl,hb⟩:=mY h2
     have:=Kv (L:=L) (E:=E) (a:=a) (x:=x) fun f hf=>GA (h3 b (by simp)) hb hf
     simpa [aU] using this
   . have kD:fo=⟨true,false,false,[⟨.kind 5,0,900⟩,⟨.base,1,1⟩,⟨.term,1,1⟩]⟩:=by rcases o0 with rfl | rfl <;> simpa [bA] using ey.symm
     subst kD
     obtain rfl:=f5 rfl
     obtain rfl:=f6 rfl
     obtain ⟨ps,b,c,rfl,hl,tD,hb,hc⟩:=xY (by omega) h2
     have hcl:=Tre.uA (ks:=ps++[b,c]) (t:=c) (by simp)
     have gc:=(B3 (L:=L) (E:=E) _ c (bT _) (by omega) (h3 c (by simp))).1 hc
     have gb:=(y8 (L:=L) (E:=E) (h3 b (by simp)) hb).1
     have key:=UO (L:=L) (E:=E) (a:=a) (k:=k) (x:=x) (ps:=ps.map fun t=>(t.pr,t.flat)) o0 (fun f hf q hq=>by
      obtain ⟨t,ht,rfl⟩:=List.mem_map.1 hq
      exact NY (h3 t (List.mem_append_left _ ht)) (by simpa [iQ.is] using tD t ht) hf) gb gc.term
     rw [Tre.QL,List.map_map] at key
     have hp:aU k x 0 0 ((ps++[b,c]).map fun t=>(t.kind,t.pr))=az (if k=3 then fH else dz)::eC x::az cB::(cX cw (ps.map (Prod.fst ∘ fun t=>(t.pr,t.flat)))++az cg::az cW::(b.pr++az gk::(c.pr++[az cn]))):=by
      have e:(ps++[b,c]).map (fun t=>(t.kind,t.pr))=(ps.map fun t=>(t.kind,t.pr))++[(b.kind,b.pr),(c.kind,c.pr)]:=by simp
      rw [e]
      generalize hq:ps.map (fun t=>(t.kind,t.pr))=q
      have e3:ps.map (Prod.fst ∘ fun t=>(t.pr,t.flat))=q.map (·.2):=by rw [<- hq,List.map_map]; rfl
      rw [e3]
      have el:(q++[(b.kind,b.pr),(c.kind,c.pr)]).length - 2=q.length:=by simp
      have O5:(q++[(b.kind,b.pr),(c.kind,c.pr)]).length - 1=q.length+1:=by simp
      rcases o0 with rfl | rfl <;> simp [aU,el,O5,nG]
     rw [hp,Tre.eW]
     simpa using key
end
end Go.Rip
namespace Go.Rip
def mH (x:Tx):Prop:=x.2 ≠ []/\ic x.2=(0,x.1,x.2)
instance (x:Tx):Decidable (mH x):=inferInstanceAs (Decidable (_/\_))
theorem XU:∀ w ∈ k0++iN,mH (az w):=by decide
theorem ad6 {x:aG} (h:kL x=true) (h0:x ≠ []):mH (eC x):=⟨h0,of_decide_eq_true h⟩
theorem LF {n:Nat} (h:n < 10):gd (48+n).toUInt8=true:=by
 have:(48+n).toUInt8.toNat=48+n:=by simp [Nat.toUInt8,UInt8.toNat_ofNat']; omega
 rw [iX]; omega
theorem IT:∀ (f n:Nat),(kZ f n).all gd=true
 | 0,n=>rfl
 | f+1,n=>by
   unfold kZ
   split
   . rename_i h
     simp only [List.all_cons,List.all_nil,Bool.and_true]
     exact LF h
   . rw [List.all_append,IT f]
     simp only [List.all_cons,List.all_nil,Bool.and_true,Bool.true_and]
     exact LF (Nat.mod_lt _ (by decide))
theorem LG:∀ (f n:Nat),kZ (f+1) n ≠ []
 | f,n=>by
   unfold kZ
   split <;> simp
theorem FM:∀ (f n:Nat),1 <= n->n < 10 ^ f->(kZ f n).head? ≠ some 48
 | 0,n,h,h'=>by simp at h'; omega
 | f+1,n,h,h'=>by
   unfold kZ
   split
   . rename_i h9
     simp only [List.head?_cons,ne_eq,ji]
     intro e
     have e2:(48+n).toUInt8.toNat=48+n:=by simp [Nat.toUInt8,UInt8.toNat_ofNat']; omega
     rw [e] at e2
     have:(48:UInt8).toNat=48:=rfl
     omega
   . rename_i h9
     have ih:=FM f (n / 10) (by omega) (by rw [Nat.pow_succ] at h'; omega)
     have hn:kZ f (n / 10) ≠ []:=by
      cases f with
      | zero=>simp at h'; omega
      | succ f=>exact LG f _
     rw [List.head?_append]
     cases hh:(kZ f (n / 10)).head? with
     | none=>exact absurd (List.head?_eq_none_iff.1 hh) hn
     | some c=>rw [hh] at ih; simpa using ih
theorem acj {s:aG} (h:s.all gd=true):s.takeWhile c8=s:=by
 have:∀ x ∈ s,c8 x=true:=fun x hx=>by
  have:=fe.1 h x hx
  simp [c8,this]
 clear h
 induction s with
 | nil=>rfl
 | cons c s ih=>rw [l9,this c (by simp),if_pos rfl,ih fun x hx=>this x (by simp [hx])]
theorem W7 {n:Int} (h:dH n=true):mH (iI n):=by
 have hn:=of_decide_eq_true h
 have ag2:(1000000:Nat) < 10 ^ 20:=by decide
 have hd:=IT 20 n.toNat
 have cr:=LG 19 n.toNat
 have hv:=HH h
 refine ⟨cr,?_⟩
 have htw:=acj hd
 obtain ⟨c,r,hcr⟩:∃ c r,kZ 20 n.toNat=c::r:=by
  cases e:kZ 20 n.toNat with
  | nil=>exact absurd e cr
  | cons c r=>exact ⟨c,r,rfl⟩
 show ic (mK n)=(0,2,mK n)
 have hE:oW (mK n)=0:=by
  unfold oW
  rw [if_neg (by unfold mK; simp [hd]),if_neg ?_,if_neg ?_]
  . have h1:=ub (mK n) 0 hd (by omega)
    have hle:=EC (mK n) 0 (by omega)
    show ¬ 1000000 < kj 0 (mK n)
    have key:∀ (s:aG) (a b:Int),s.all gd=true->0 <= b->min b 1000001=a->kj a s=min (kX b s) 1000001:=by
     intro s
     induction s with
     | nil=>intro a b _ _ e; show a=_; rw [<- e]; rfl
     | cons c s ih =>
       intro a b hs hb e
       simp only [List.all_cons,bS] at hs
       have hc:=iX.1 hs.1
       exact ih _ (10 * b+((c.toNat:Int) - 48)) hs.2 (by omega) (by show min _ _=min (10 * a+((c.toNat:Int) - 48)) 1000001; omega)
    have:=key (mK n) 0 0 hd (by omega) rfl
    have hv:kX 0 (mK n)=n:=hv
    rw [this,hv]; omega
  . rintro ⟨h1,h2⟩
    by_cases h9:n.toNat < 10
    . unfold mK kZ at h1
      rw [if_pos h9] at h1
      simp at h1
    . exact FM 20 n.toNat (by omega) (by omega) h2
 unfold ic
 simp only
 unfold mK at hE ⊢
 rw [htw,hcr]
 rw [hcr] at hE
 have hc:gd c=true:=by
  rw [hcr] at hd
  simp only [List.all_cons,bS] at hd
  exact hd.1
 simp only [hc,if_true,hE]
theorem Me:∀ w ∈ iN,∃ c r,w=c::r/\c8 c=false/\c ≠ 62/\c ≠ 32/\c ≠ 10/\c ≠ 126/\(c=61->w=gk):=by
 intro w hw
 simp only [iN,cJ,List.not_mem_nil,or_false] at hw
 rcases hw with rfl | rfl | rfl | rfl | rfl | rfl | rfl | rfl | rfl | rfl | rfl | rfl | rfl | rfl | rfl | rfl <;> exact ⟨_,_,rfl,by decide,by decide,by decide,by decide,by decide,by decide⟩
theorem Zs {c:UInt8} (h:c8 c=true):c ≠ 62/\c ≠ 32/\c ≠ 10/\c ≠ 126/\c ≠ 61:=by
 refine ⟨?_,?_,?_,?_,?_⟩ <;> (rintro rfl; exact absurd h (by decide))
theorem uP {x:Tx} (h:mH x):∃ c r,x.2=c::r/\c ≠ 62/\c ≠ 32/\c ≠ 10/\c ≠ 126/\(c=61->x.2=gk)/\(x.1=4->c8 c=false/\x.2 ∈ iN)/\(x.1 ≠ 4->x.2.all c8=true/\x.1 ≠ 4):=by
 have key:(∃ c r,x.2=c::r/\c8 c=true)->x.1 ≠ 4->x.2.all c8=true->∃ c r,x.2=c::r/\c ≠ 62/\c ≠ 32/\c ≠ 10/\c ≠ 126/\(c=61->x.2=gk)/\(x.1=4->c8 c=false/\x.2 ∈ iN)/\(x.1 ≠ 4->x.2.all c8=true/\x.1 ≠ 4):=by
  rintro ⟨c,r,e,hc⟩ h4 ha
  obtain ⟨a1,a2,a3,a4,a5⟩:=Zs hc
  exact ⟨c,r,e,a1,a2,a3,a4,fun e=>absurd e a5,fun e=>absurd e h4,fun _=>⟨ha,h4⟩⟩
 have kw:∀ w ∈ k0,w.all c8=true:=by decide
 have first:∀ {s:aG},s ≠ []->s.all c8=true->∃ c r,s=c::r/\c8 c=true:=by
  intro s h0 h
  cases s with
  | nil=>exact absurd rfl h0
  | cons c r=>simp only [List.all_cons,bS] at h; exact ⟨c,r,rfl,h.1⟩
 rcases qZ h.2 with k | k | k | k
 . exact key (first h.1 k.2.2.2.2) (by omega) k.2.2.2.2
 . have hd:=(AM (Cv (by rw [h.2,k.1]) h.1)).1
   have ha:x.2.all c8=true:=by
    rw [fe] at hd ⊢
    intro c hc; simp [c8,hd c hc]
   exact key (first h.1 ha) (by omega) ha
 . exact key (first h.1 (kw _ k.2)) (by omega) (kw _ k.2)
 . obtain ⟨c,r,e,h1,h2,h3,h4,h5,h6⟩:=Me _ k.2
   exact ⟨c,r,e,h2,h3,h4,h5,h6,fun _=>⟨h1,k.2⟩,fun h=>absurd k.1 h⟩
theorem JW {p:UInt8->Bool}:∀ {s t:aG},s.all p=true->(∀ c r,t=c::r->p c=false)->(s++t).takeWhile p=s
 | [],[],_,_=>rfl
 | [],c::r,_,h=>by rw [jY,l9,h c r rfl]; rfl
 | c::s,t,h,k=>by
   simp only [List.all_cons,bS] at h
   rw [gE,l9,h.1,if_pos rfl,JW h.2 k]
theorem VQ {s t:aG} (h0:s ≠ []) (h:s.all c8=true) (k:∀ c r,t=c::r->c8 c=false):ic (s++t)=ic s:=by
 have e1:=JW h k
 have e2:=JW (t:=[]) h (by simp)
 rw [gD] at e2
 unfold ic
 simp only [e1,e2]
 cases s with
 | nil=>exact absurd rfl h0
 | cons c s=>rfl
theorem VT {w t:aG} (hw:w ∈ iN) (h1:w=cW->∀ c r,t=c::r->c ≠ 61) (h2:w=rO->∀ c r,t=c::r->c ≠ 62):ic (w++t)=(0,4,w):=by
 obtain ⟨c,r,e,hc,_⟩:=Me w hw
 have etw:(w++t).takeWhile c8=[]:=by rw [e,gE,l9,hc]; rfl
 unfold ic
 simp only [etw]
 have hf:iN.find? (fun x=>x.isPrefixOf (w++t))=some w:=by
  simp only [iN,cJ,List.not_mem_nil,or_false] at hw
  rcases hw with rfl | rfl | rfl | rfl | rfl | rfl | rfl | rfl | rfl | rfl | rfl | rfl | rfl | rfl | rfl | rfl
  all_goals first
   | rfl
   | (cases t with
      | nil=>rfl
      | cons c r =>
        have e2:((62:UInt8) == c)=false:=by simp [Ne.symm (h2 rfl c r rfl)]
        simp [iN,List.find?,List.isPrefixOf,bL,fF,gk,sO,sN,rO,e2])
   | (cases t with
      | nil=>rfl
      | cons c r =>
        have e2:((61:UInt8) == c)=false:=by simp [Ne.symm (h1 rfl c r rfl)]
        simp [iN,List.find?,List.isPrefixOf,bL,fF,gk,sO,sN,rO,tT,lZ,cB,cg,nf,qq,cw,cn,cW,e2])
 rw [hf]
def Hh (a:Tx) (t:aG):Prop:=(a.1 ≠ 4->∀ c r,t=c::r->c8 c=false)/\(a.2=cW->∀ c r,t=c::r->c ≠ 61)/\∀ c r,t=c::r->c ≠ 62
theorem VR {a:Tx} {t:aG} (h:mH a) (k:Hh a t):ic (a.2++t)=(0,a.1,a.2):=by
 obtain ⟨c,r,e,_,_,_,_,_,h4,hn⟩:=uP h
 by_cases h':a.1=4
 . rw [VT (h4 h').2 k.2.1 fun _=>k.2.2,h']
 . rw [VQ h.1 (hn h').1 (k.1 h'),h.2]
theorem E6 {a:Tx} {c:UInt8} {t:aG} (h:c=32\/c=10):Hh a (c::t):=by
 refine ⟨fun _ c' r e=>?_,fun _ c' r e=>?_,fun c' r e=>?_⟩
 all_goals
  obtain ⟨rfl,_⟩:=List.cons.inj e
  rcases h with rfl | rfl <;> decide
theorem X0 {a:Tx}:Hh a []:=⟨fun _ c r e=>(nomatch e),fun _ c r e=>(nomatch e),fun c r e=>(nomatch e)⟩
theorem TM {a b:Tx} {t:aG} (ha:mH a) (hb:mH b) (h:fU a b=false):Hh a (b.2++t):=by
 obtain ⟨c,r,e,h62,_,_,_,Wj,h4,hn⟩:=uP hb
 simp only [fU,Bool.or_eq_false_iff,Bool.and_eq_false_iff,bne_eq_false_iff_eq,beq_eq_false_iff_ne] at h
 rw [e]
 refine ⟨fun h1 c' r' e'=>?_,fun h1 c' r' e'=>?_,fun c' r' e'=>?_⟩
 all_goals obtain ⟨rfl,_⟩:=List.cons.inj e'
 . rcases h.1 with h | h
   . exact absurd h h1
   . exact (h4 h).1
 . intro e61
   rcases h.2 with h | h
   . exact h h1
   . exact h (Wj e61)
 . exact h62
theorem ou {a b:Tx} {l:List Tx}:cL (a::b::l)=a.2++(if fU a b then [32] else [])++cL (b::l):=rfl
theorem Tm {b:Tx} {l:List Tx}:∃ t,cL (b::l)=b.2++t:=by
 cases l with
 | nil=>exact ⟨[],by simp [cL]⟩
 | cons c l=>exact ⟨_,by rw [ou,gi]⟩
theorem Ca {s:aG} {p f:Nat} {acc:List Tk} {a:Tx} {t:aG} (h:mH a) (hs:s.drop p=a.2++t) (hb:Hh a t):eT (f+1) s p acc=if acc.length=900 then .bad p 5 else eT f s (p+a.2.length) (acc++[⟨a.1,a.2,p⟩]):=by
 obtain ⟨c,r,e,_,h32,nw,zq,_⟩:=uP h
 have ht:=VR h hb
 rw [e] at hs ht
 rw [eT,hs]
 rw [gE] at ht ⊢
 have n32:c.toNat ≠ 32:=fun e=>h32 (UInt8.toNat_inj.1 e)
 have n10:c.toNat ≠ 10:=fun e=>nw (UInt8.toNat_inj.1 e)
 have n126:c.toNat ≠ 126:=fun e=>zq (UInt8.toNat_inj.1 e)
 simp only [n32,n10,n126,or_self,if_false,ht,ne_eq,not_true]
 rw [e]
theorem FY {s:aG} {p f:Nat} {acc:List Tk} {c:UInt8} {t:aG} (hs:s.drop p=c::t) (hc:c=32\/c=10):eT (f+1) s p acc=eT f s (p+1) acc:=by
 rw [eT,hs]
 rcases hc with rfl | rfl <;> rfl
theorem xF {s t:aG} {p:Nat} (h:s.drop p=t) (h0:t ≠ []):p+t.length=s.length:=by
 have:=congrArg List.length h
 have:0 < t.length:=List.length_pos_iff.2 h0
 simp at *; omega
theorem BZ {s a t:aG} {p:Nat} (h:s.drop p=a++t):s.drop (p+a.length)=t:=by rw [<- List.drop_drop,h,List.drop_left]
theorem F0 {s:aG}:∀ (l:List Tx) (acc:List Tk) (p f:Nat) (rest:aG),(∀ x ∈ l,mH x)->s.drop p=cL l++rest->(rest=[]\/∃ r,rest=10::r)->s.length - p <= f->acc.length <= 900 ->
 (acc.length+l.length <= 900->∃ ts f',ts.map tx=l/\s.length - (p+(cL l).length) <= f'/\eT f s p acc=eT f' s (p+(cL l).length) (acc++ts))/\(900 < acc.length+l.length->∃ q,eT f s p acc=.bad q 5)
 | [],acc,p,f,rest,hl,hs,hr,hf,ha=>⟨fun _=>⟨[],f,rfl,by simpa [cL] using hf,by simp [cL]⟩,fun h=>by simp at h; omega⟩
 | [a],acc,p,f,rest,hl,hs,hr,hf,ha=>by
   have h:=hl a (by simp)
   have hs:s.drop p=a.2++rest:=hs
   have hb:Hh a rest:=by
    rcases hr with rfl | ⟨r,rfl⟩
    . exact X0
    . exact E6 (.inr rfl)
   have cr:a.2++rest ≠ []:=by simp [h.1]
   have:=xF hs cr
   have hp:0 < a.2.length:=List.length_pos_iff.2 h.1
   simp only [cM] at this
   obtain ⟨f,rfl⟩:∃ g,f=g+1:=⟨f - 1,by omega⟩
   rw [Ca h hs hb]
   refine ⟨fun h9=>⟨[⟨a.1,a.2,p⟩],f,rfl,by simp [cL]; omega,?_⟩,fun h9=>⟨p,?_⟩⟩
   . rw [if_neg (by simp at h9; omega)]; rfl
   . rw [if_pos (by simp at h9; omega)]
 | a::b::l,acc,p,f,rest,hl,hs,hr,hf,ha=>by
   have h:=hl a (by simp)
   have hb:=hl b (by simp)
   rw [ou] at hs
   have hp:0 < a.2.length:=List.length_pos_iff.2 h.1
   have key:∀ (p' f':Nat),(p'=p+a.2.length+(if fU a b then [(32:UInt8)] else []).length)->s.drop p'=cL (b::l)++rest->s.length - p' <= f'->(acc.length ≠ 900->eT f s p acc=eT f' s p' (acc++[⟨a.1,a.2,p⟩]))->(acc.length=900->eT f s p acc=.bad p 5) ->
    (acc.length+(a::b::l).length <= 900->∃ ts f',ts.map tx=a::b::l/\s.length - (p+(cL (a::b::l)).length) <= f'/\eT f s p acc=eT f' s (p+(cL (a::b::l)).length) (acc++ts))/\(900 < acc.length+(a::b::l).length->∃ q,eT f s p acc=.bad q 5):=by
    intro p' f' WJ eU kD e1 e2
    by_cases h9:acc.length=900
    . exact ⟨fun h=>by simp at h; omega,fun _=>⟨p,e2 h9⟩⟩
    . obtain ⟨k1,k2⟩:=F0 (b::l) (acc++[⟨a.1,a.2,p⟩]) p' f' rest (fun x hx=>hl x (by simp only [cJ] at hx ⊢; exact .inr hx)) eU hr kD (by simp; omega)
      have hlen:p'+(cL (b::l)).length=p+(cL (a::b::l)).length:=by rw [ou,WJ]; simp only [cM]; omega
      refine ⟨fun h=>?_,fun h=>?_⟩
      . obtain ⟨ts,g,t1,t2,t3⟩:=k1 (by simp only [cM,fm,ko] at h ⊢; omega)
        rw [hlen] at t2 t3
        refine ⟨⟨a.1,a.2,p⟩::ts,g,by rw [eh,t1]; rfl,t2,?_⟩
        rw [e1 h9,t3,gi]; rfl
      . obtain ⟨q,t3⟩:=k2 (by simp only [cM,fm,ko] at h ⊢; omega)
        exact ⟨q,by rw [e1 h9,t3]⟩
   cases zr:fU a b with
   | false =>
     rw [zr] at hs key
     simp only [bQ,if_false,gD,ko,Nat.add_zero] at hs key
     rw [gi] at hs
     obtain ⟨t,ht⟩:=Tm (b:=b) (l:=l)
     have rU:s.drop p=a.2++(b.2++(t++rest)):=by rw [hs,ht,gi]
     have hbh:=TM (t:=t++rest) h hb zr
     have:=xF rU (by simp [h.1])
     simp only [cM] at this
     obtain ⟨f,rfl⟩:∃ g,f=g+1:=⟨f - 1,by omega⟩
     have fV:=Ca (f:=f) (acc:=acc) h rU hbh
     refine key _ f rfl (BZ hs) (by omega) (fun h9=>by rw [fV,if_neg h9]) fun h9=>by rw [fV,if_pos h9]
   | true =>
     rw [zr] at hs key
     simp only [if_true,fm,ko,df] at hs key
     have rU:s.drop p=a.2++(32::(cL (b::l)++rest)):=by rw [hs]; simp
     have hbh:Hh a (32::(cL (b::l)++rest)):=E6 (.inl rfl)
     have:=xF rU (by simp [h.1])
     simp only [cM,fm] at this
     obtain ⟨f,rfl⟩:∃ g,f=g+1:=⟨f - 1,by omega⟩
     obtain ⟨f,rfl⟩:∃ g,f=g+1:=⟨f - 1,by omega⟩
     have fV:=Ca (f:=f+1) (acc:=acc) h rU hbh
     have hd:=BZ rU
     refine key _ f rfl (by rw [<- List.drop_drop,hd]; rfl) (by omega) (fun h9=>by rw [fV,if_neg h9,FY hd (.inl rfl)]) fun h9=>by rw [fV,if_pos h9]
end Go.Rip
namespace Go.Rip
theorem Cr {w:aG} {x:Tx}:∀ {ls:List (List Tx)},x ∈ cX w ls->x=az w\/∃ l ∈ ls,x ∈ l
 | [],h=>by simp [cX] at h
 | [l],h=>.inr ⟨l,by simp,h⟩
 | l::m::ls,h=>by
   rw [cX,gu,cJ] at h
   rcases h with h | h | h
   . exact .inr ⟨l,by simp,h⟩
   . exact .inl h
   . rcases Cr h with h | ⟨k,h1,h2⟩
     . exact .inl h
     . exact .inr ⟨k,List.mem_cons_of_mem _ h1,h2⟩
theorem K4 {k:Int} {n:Nat} {l:List Tx} {x:Tx} (h:x ∈ dL k n l):x=az cB\/x=az cg\/x ∈ l:=by
 unfold dL at h
 split at h
 . exact .inr (.inr h)
 . simp only [gE,cJ,gu,List.not_mem_nil,or_false] at h
   rcases h with h | h | h
   . exact .inl h
   . exact .inr (.inr h)
   . exact .inr (.inl h)
theorem Ym {c:Prop} [Decidable c] {x:Tx} {A B:List Tx} {G:Prop} (h:x ∈ if c then A else B) (h1:c->x ∈ A->G) (h2:¬ c->x ∈ B->G):G:=by
 split at h
 . exact h1 ‹_› h
 . exact h2 ‹_› h
theorem QI {P:Tx->Prop} {k:Int} {t:aG} {n m:Int} {ks:List (Int × List Tx)} {f:gl} (hf:bA k=some f) (hw:∀ w ∈ k0++iN,P (az w)) (ht:f.text=true->P (eC t)) (hn:P (iI n)) (hm:P (iI m)) (hk:∀ y ∈ ks,∀ x ∈ y.2,P x):∀ x ∈ aU k t n m ks,P x:=by
 have hg:∀ i,∀ x ∈ (ks.getD i (0,[])).2,P x:=by
  intro i x hx
  rw [nG] at hx
  cases h:ks[i]? with
  | none=>rw [h] at hx; simp at hx
  | some y=>rw [h] at hx; exact hk y (gr h) x hx
 have hb:∀ least i,∀ x ∈ dL (ks.getD i (0,[])).1 least (ks.getD i (0,[])).2,P x:=by
  intro least i x hx
  rcases K4 hx with rfl | rfl | h
  . exact hw _ (by decide)
  . exact hw _ (by decide)
  . exact hg i x h
 have hs:∀ w ∈ k0++iN,∀ j,∀ x ∈ cX w ((ks.map (·.2)).take j),P x:=by
  intro w PQ j x hx
  rcases Cr hx with rfl | ⟨l,h1,h2⟩
  . exact hw _ PQ
  . obtain ⟨y,hy,rfl⟩:=List.mem_map.1 (List.mem_of_mem_take h1)
    exact hk y hy x h2
 have eU:∀ w ∈ k0++iN,∀ x ∈ cX w (ks.map (·.2)),P x:=by
  intro w PQ x hx
  exact hs w PQ ks.length x (by rw [qD (by simp)]; exact hx)
 have hq:∀ x ∈ cX cn (ks.map fun x=>dL x.1 1 x.2),P x:=by
  intro x hx
  rcases Cr hx with rfl | ⟨l,h1,h2⟩
  . exact hw _ (by decide)
  . obtain ⟨y,hy,rfl⟩:=List.mem_map.1 h1
    rcases K4 h2 with rfl | rfl | h
    . exact hw _ (by decide)
    . exact hw _ (by decide)
    . exact hk y hy x h
 have afy:∀ k,P (az (jP k)):=by
  intro k
  unfold jP
  repeat' split
  all_goals exact hw _ (by decide)
 have Ic:∀ c:Prop,[Decidable c]->P (az (if c then fH else dz)):=by
  intro c _
  split <;> exact hw _ (by decide)
 intro x hx
 have W:∀ w ∈ k0++iN,x=az w->P x:=fun w PQ e=>e ▸ hw w PQ
 have key:(∀ j,x ∈ (ks.getD j (0,[])).2->P x)/\(∀ l j,x ∈ dL (ks.getD j (0,[])).1 l (ks.getD j (0,[])).2->P x):=⟨fun j=>hg j x,fun l j=>hb l j x⟩
 unfold aU at hx
 simp only at hx
 have qR:(k=2\/k=3\/k=4\/k=5\/k=12\/k=13\/k=14\/k=16\/k=31\/k=32\/k=33\/k=37\/k=34)->P (eC t):=by
  intro h
  apply ht
  rcases h with rfl | rfl | rfl | rfl | rfl | rfl | rfl | rfl | rfl | rfl | rfl | rfl | rfl <;> (simp [bA] at hf; rw [<- hf])
 repeat' (refine Ym hx (fun c hx=>?_) (fun c hx=>?_))
 all_goals try simp only [gE,gi,cJ,gu,List.not_mem_nil,or_false,false_or] at hx
 all_goals try exact hx.elim
 all_goals repeat' (refine Or.elim hx (fun hx=>?_) (fun hx=>?_))
 all_goals first
  | (subst hx; first | exact hw _ (by decide) | exact hn | exact hm | exact afy _ | exact Ic _ | exact qR (by omega))
  | exact hg _ _ hx
  | exact hb _ _ _ hx
  | exact hs _ (by decide) _ _ hx
  | exact eU _ (by decide) _ hx
  | exact hq _ hx
theorem G7:∀ (N:Nat) (t:Tre),t.flat.length <= N->t.ok=true->∀ x ∈ t.pr,mH x
 | 0,t,hN,_=>by have:=t.dE; omega
 | N+1,.mk k tx n m a ks,hN,ho=>by
   obtain ⟨fo,ey,h1,h2,h3⟩:=Tre.rB ho
   have hlen:(Tre.bq ks).length+1=(Tre.mk k tx n m a ks).flat.length:=by rw [Tre.eA]; simp
   obtain ⟨f1,f2,f3,f4,f5,f6⟩:=ir h1
   rw [Tre.cu]
   refine QI ey XU (fun e=>ad6 (f2 e).2 (f2 e).1) (W7 f3) (W7 f4) fun y hy=>?_
   obtain ⟨t,ht,rfl⟩:=List.mem_map.1 hy
   have:=Tre.uA ht
   exact G7 N t (by omega) (h3 t ht)
end Go.Rip
namespace Go.Rip
def gj:List Tre->aG->aG × Int
 | [],acc=>if 2500 < acc.length then ([],5) else (acc,0)
 | t::ts,acc=>if (eY t.pr).2 ≠ 0 then ([],(eY t.pr).2) else gj ts (acc++(eY t.pr).1++[10])
def mZ (t:Tre):aG × Int:=if t.kind ≠ 1 then eY t.pr else gj t.kids []
def gg (ts:List Tre):aG:=ts.flatMap fun t=>cL t.pr++[10]
def gQ (ts:List Tre):List Tx:=ts.flatMap Tre.pr
theorem Gw {l:List Tx} (h:(eY l).2=0):(eY l).1=cL l/\l.length <= 900/\(cL l).length <= 2500:=by
 unfold eY at h ⊢
 split at h
 . cases h
 . rename_i h1
   split at h
   . cases h
   . rename_i h2
     rw [if_neg h1,if_neg h2]
     exact ⟨rfl,by omega,by omega⟩
theorem JR:∀ (ts:List Tre) (acc:aG),(gj ts acc).2=0->(gj ts acc).1=acc++gg ts/\(acc++gg ts).length <= 2500
 | [],acc,h=>by
   unfold gj at h ⊢
   split at h
   . cases h
   . rename_i h1
     rw [if_neg h1]
     exact ⟨by simp [gg],by simp [gg]; omega⟩
 | t::ts,acc,h=>by
   unfold gj at h ⊢
   split at h
   . exact absurd h ‹_›
   . rename_i h1
     rw [if_neg h1]
     have h1:=Decidable.not_not.1 h1
     obtain ⟨e,_,_⟩:=Gw h1
     have:=JR ts _ h
     rw [e] at this ⊢
     simpa [gg] using this
theorem IN {t:Tre} (ho:t.ok=true) (hk:iY t.kind=true):∃ w r,t.pr=az w::r/\w ∈ [dI,fH,dz]:=by
 cases t with
 | mk k x n m a ks =>
   rw [Tre.cu]
   have hk:k=2\/k=3\/k=4:=by
    have h:2 <= k/\k <= 4:=of_decide_eq_true hk
    omega
   rcases hk with rfl | rfl | rfl
   . exact ⟨dI,_,rfl,by decide⟩
   . exact ⟨fH,_,rfl,by decide⟩
   . exact ⟨dz,_,rfl,by decide⟩
theorem Yi {L:List Tk} {i:Nat} {w:aG} {l:List Tx} (hw:w ∈ [dI,fH,dz]) (h:At L i (az w::l)):tn L i=true:=by
 unfold tn
 simp only [cJ,List.not_mem_nil,or_false] at hw
 rcases hw with rfl | rfl | rfl <;> simp [fx h]
theorem FZ {s:aG}:∀ (ts:List Tre) (acc:List Tk) (p f:Nat),(∀ t ∈ ts,t.ok=true)->s.drop p=gg ts->s.length - p <= f->acc.length <= 900 ->
 (acc.length+(gQ ts).length <= 900->∃ l,l.map tx=gQ ts/\eT f s p acc=.ok (acc++l))/\(900 < acc.length+(gQ ts).length->∃ q,eT f s p acc=.bad q 5)
 | [],acc,p,f,ho,hs,hf,ha=>by
   refine ⟨fun _=>⟨[],rfl,?_⟩,fun h=>by simp [gQ] at h; omega⟩
   cases f with
   | zero=>simp [eT]
   | succ f =>
     have hs:s.drop p=[]:=hs
     rw [eT,hs]; simp
 | t::ts,acc,p,f,ho,hs,hf,ha=>by
   have hs:s.drop p=cL t.pr++(10::gg ts):=by rw [hs]; simp [gg]
   obtain ⟨k1,k2⟩:=F0 (s:=s) t.pr acc p f (10::gg ts) (G7 _ t (bT _) (ho t (by simp))) hs (.inr ⟨_,rfl⟩) hf ha
   have hx:(gQ (t::ts)).length=t.pr.length+(gQ ts).length:=by simp [gQ]
   rw [hx]
   by_cases h9:acc.length+t.pr.length <= 900
   . obtain ⟨l0,f',e0,kD,e1⟩:=k1 h9
     have qP:l0.length=t.pr.length:=by rw [<- e0]; simp
     have hd:=BZ hs
     have hdl:=xF hd (by simp)
     simp only [fm] at hdl
     obtain ⟨f',rfl⟩:∃ g,f'=g+1:=⟨f' - 1,by omega⟩
     rw [e1,FY hd (.inr rfl)]
     have rp:s.drop (p+(cL t.pr).length+1)=gg ts:=by rw [<- List.drop_drop,hd]; rfl
     obtain ⟨m1,m2⟩:=FZ ts (acc++l0) (p+(cL t.pr).length+1) f' (fun u hu=>ho u (by simp [hu])) rp (by omega) (by simp; omega)
     refine ⟨fun h=>?_,fun h=>?_⟩
     . obtain ⟨l,e2,e3⟩:=m1 (by rw [cM,qP]; omega)
       exact ⟨l0++l,by rw [List.map_append,e0,e2]; rfl,by rw [e3,gi]⟩
     . exact m2 (by rw [cM,qP]; omega)
   . exact ⟨fun h=>by omega,fun _=>k2 (by omega)⟩
theorem Tq {x:Tx} (h:mH x):∀ c ∈ x.2,lS c=true:=by
 have aln:∀ c,c8 c=true->lS c=true:=by
  intro c hc
  simp only [c8,gd,lT,G0,lS,jW,ee] at hc ⊢
  omega
 obtain ⟨c,r,e,_,_,_,_,_,h4,hn⟩:=uP h
 by_cases h':x.1=4
 . have key:∀ w ∈ iN,∀ c ∈ w,lS c=true:=by decide
   exact key _ (h4 h').2
 . intro c hc
   exact aln c (fe.1 (hn h').1 c hc)
theorem Gx:∀ (l:List Tx),(∀ x ∈ l,mH x)->∀ c ∈ cL l,lS c=true
 | [],_,c,h=>by simp [cL] at h
 | [a],ho,c,h=>Tq (ho a (by simp)) c h
 | a::b::l,ho,c,h=>by
   rw [ou,gu,gu] at h
   rcases h with (h | h) | h
   . exact Tq (ho a (by simp)) c h
   . split at h
     . rw [jX] at h; subst h; decide
     . cases h
   . exact Gx (b::l) (fun x hx=>ho x (by simp only [cJ] at hx ⊢; exact .inr hx)) c h
theorem Yr {ts:List Tre} (ho:∀ t ∈ ts,t.ok=true):∀ c ∈ gg ts,lS c=true:=by
 intro c hc
 obtain ⟨t,ht,h⟩:=List.mem_flatMap.1 hc
 rw [gu,jX] at h
 rcases h with h | rfl
 . exact Gx _ (G7 _ t (bT _) (ho t ht)) c h
 . decide
theorem LP {ts:List Tre} (ho:∀ t ∈ ts,t.ok=true) (hl:(gg ts).length <= 2500) :
 ((gQ ts).length <= 900->∃ l,l.map tx=gQ ts/\iM (gg ts)=.ok l)/\(900 < (gQ ts).length->∃ q,iM (gg ts)=.bad q 5):=by
 have hc:sb (gg ts)=(0,0):=by
  unfold sb
  rw [if_neg (by omega)]
  have:(gg ts).findIdx? (fun c=>!lS c)=none:=by
   rw [List.findIdx?_eq_none_iff]
   intro c hc
   simp [Yr ho c hc]
  rw [this]
 obtain ⟨k1,k2⟩:=FZ (s:=gg ts) ts [] 0 (gg ts).length ho rfl (by omega) (by simp)
 have he:iM (gg ts)=eT (gg ts).length (gg ts) 0 []:=by unfold iM; rw [hc]; simp
 rw [he]
 simp only [ko,df,jY] at k1 k2
 exact ⟨k1,k2⟩
theorem IQ {L:List Tk} {E:Nat}:∀ (ts:List Tre) (acc:List Nd) (i f:Nat),(∀ t ∈ ts,t.ok=true/\iY t.kind=true/\t.flat.length <= 900)->At L i (gQ ts)->i+(gQ ts).length=L.length->L.length - i < f->∃ ns,bz ns=bz (Tre.bq ts)/\jN L E f acc i=.ok (acc++ns) L.length
 | [],acc,i,f,ho,hi,hl,hf=>by
   obtain ⟨f,rfl⟩:∃ g,f=g+1:=⟨f - 1,by omega⟩
   have hl:i=L.length:=hl
   refine ⟨[],by simp,?_⟩
   rw [jN,if_neg (by omega),hl]; simp
 | t::ts,acc,i,f,ho,hi,hl,hf=>by
   obtain ⟨f,rfl⟩:∃ g,f=g+1:=⟨f - 1,by omega⟩
   obtain ⟨h1,h2,h3⟩:=ho t (by simp)
   have hx:gQ (t::ts)=t.pr++gQ ts:=rfl
   rw [hx] at hi hl
   rw [cM] at hl
   obtain ⟨w,r,hw,_⟩:=IN h1 h2
   have oT:0 < t.pr.length:=by rw [hw]; simp
   have ey:i+t.pr.length=L.length\/tn L (i+t.pr.length)=true:=by
    cases ts with
    | nil=>left; simp [gQ] at hl; exact hl
    | cons u us =>
      right
      obtain ⟨k1,k2,k3⟩:=ho u (by simp)
      obtain ⟨w,r,hw,hm⟩:=IN k1 k2
      have:=hi.app.2
      rw [show gQ (u::us)=u.pr++gQ us from rfl,hw] at this
      exact Yi hm this
   obtain ⟨n0,b0,p0⟩:=P8 (L:=L) (E:=E) h3 h1 h2 i hi.app.1 ey (fuel L) (by unfold fuel; omega) (by unfold fuel; omega)
   obtain ⟨ns,b1,p1⟩:=IQ ts (acc++n0) (i+t.pr.length) f (fun u hu=>ho u (by simp [hu])) hi.app.2 (by omega) (by omega)
   refine ⟨n0++ns,by rw [Tre.cx]; exact gN b0 b1,?_⟩
   rw [jN,if_pos (by omega),p0,aT,p1,gi]
theorem ads {l:List Nd} {i:Nat}:(bz l)[i]?=l[i]?.map fun x=>{ x with at_:=0 }:=by simp [bz]
theorem Fm:∀ (l:List Nd) (n:Nat) (es:List Int),iu (bz l) n es=iu l n es
 | [],n,es=>rfl
 | x::l,n,es=>by
   show iu ({ x with at_:=0 }::bz l) n es=_
   rw [iu,iu,Fm l]
theorem LJ (l:List Nd) (en:Int):∀ (f p:Nat),fl (bz l) en f p=fl l en f p
 | 0,p=>rfl
 | f+1,p=>by
   rw [fl,fl,ads]
   cases l[p]? with
   | none=>rfl
   | some x=>simp only [Option.map_some,LJ l en f]
theorem Pk {a b:List Nd} (h:bz a=bz b):jt a=jt b:=by
 have key:∀ l,jt (bz l)=jt l:=by
  intro l
  unfold jt
  rw [Fm,LJ]
  have:lX (bz l)=lX l:=by cases l <;> rfl
  rw [this]
  simp [bz]
 rw [<- key a,<- key b,h]
end Go.Rip
