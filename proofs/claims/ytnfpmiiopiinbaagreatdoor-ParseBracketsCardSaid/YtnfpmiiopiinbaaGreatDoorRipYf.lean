/- Lemmas for the proof: no conditions. -/
import Derived.Test.YtnfpmiiopiinbaaGreatDoorRipZz
import Derived.Test.YtnfpmiiopiinbaaGreatDoorRipYe
set_option linter.unusedVariables false
set_option linter.unusedSimpArgs false
set_option linter.loopingSimpArgs false
namespace Go.Rip
theorem Tre.TJ:∀ ts:List Tre,Tre.TH ts=ts.map λ t=>(t.kind,t.pr)
 | []=>by rw[Tre.TH]; rfl
 | t::ts=>by rw[Tre.TH,Tre.TJ ts]; rfl
theorem Tre.cG (k:Int) (x:aG) (n m a:Int) (ks:List Tre):(Tre.mk k x n m a ks).pr=aV k x n m (ks.map λ t=>(t.kind,t.pr)):=by rw[Tre.pr,Tre.TJ]
theorem Tre.oM (k:Int) (x:aG) (n m a:Int) (ks:List Tre):(Tre.mk k x n m a ks).flat=node k x n m a (Tre.bu ks):=by rw[Tre.flat]
theorem Tre.OJ:∀ {ts:List Tre},Tre.uo ts=true->∀ t∈ts,t.ok=true
 | [],_,t,h=>by cases h
 | t::ts,h,u,hu=>by
   rw[Tre.tG,cb]at h;rcases cK.1 hu with rfl|hu
   . exact h.1
   . exact Tre.OJ h.2 u hu
theorem Tre.ru {k:Int} {x:aG} {n m a:Int} {ks:List Tre} (h:(Tre.mk k x n m a ks).ok=true):∃ f,bG k=some f/\eF ⟨k,x,n,m,a,0⟩ f=true/\ep (ks.map Tre.kind) f.kids=true/\∀ t∈ks,t.ok=true:=by
 rw[Tre.ok,cb]at h;obtain⟨h1,h2⟩:=h;split at h1
 . rename_i f hf;rw[cb]at h1;exact⟨f,hf,h1.1,h1.2,Tre.OJ h2⟩
 . cases h1
theorem Tre.um {ks:List Tre} {t:Tre} (h:t∈ks):t.flat.length<=(Tre.bu ks).length:=by
 obtain⟨a,b,rfl⟩:=List.append_of_mem h;rw[Tre.fy,Tre.cM]; simp; omega
theorem Tre.TK (ks:List Tre) (f:Tre->List Tx):Pt.all (ks.map λ t=>(f t,t.flat))=Tre.bu ks:=by
 induction ks with
 | nil=>rfl
 | cons t ks ih =>
   rw[Tre.cM,<- ih];simp[Pt.all]
theorem nW {c:jv} {ks:List Tre} (h:ep (ks.map Tre.kind) [⟨c,1,1⟩]=true):∃ a,ks=[a]/\c.is a.kind=true:=by
 rw[Cb]at h
 match ks,h with
 | [],h=>simp at h
 | [a],h=>exact⟨a,rfl,by simpa using h⟩
 | a::b::r,h=>simp at h
theorem za {c:jv} {ks:List Tre} (h:ep (ks.map Tre.kind) [⟨c,2,2⟩]=true):∃ a b,ks=[a,b]/\c.is a.kind=true/\c.is b.kind=true:=by
 rw[Cb]at h
 match ks,h with
 | [],h=>simp at h
 | [a],h=>simp at h
 | [a,b],h=>exact⟨a,b,rfl,by simpa using h⟩
 | a::b::c::r,h=>simp at h
theorem Z3 {c:jv} {ks:List Tre} (h:ep (ks.map Tre.kind) [⟨c,3,3⟩]=true):∃ a b d,ks=[a,b,d]/\c.is a.kind=true/\c.is b.kind=true/\c.is d.kind=true:=by
 rw[Cb]at h
 match ks,h with
 | [],h=>simp at h
 | [a],h=>simp at h
 | [a,b],h=>simp at h
 | [a,b,d],h=>exact⟨a,b,d,rfl,by simpa using h⟩
 | a::b::c::d::r,h=>simp at h
theorem Cg {c:jv} {lo hi:Nat} {ks:List Tre} (h:ep (ks.map Tre.kind) [⟨c,lo,hi⟩]=true):lo<=ks.length/\∀ t∈ks,c.is t.kind=true:=by
 rw[Cb]at h;simp only[cb,eg,List.length_map,fm,List.mem_map,forall_exists_index,and_imp,forall_apply_eq_imp_iff₂]at h;exact⟨h.1.1,h.2⟩
theorem ny {α:Type}:∀ {l:List α},1<=l.length->∃ r x,l=r++[x]:=λ {l} h=>⟨l.dropLast,l.getLast (by intro e; subst e; simp at h),(List.dropLast_concat_getLast _).symm⟩
theorem ET {c d:jv} {lo:Nat} {ks:List Tre} (hl:ks.length<=901) (h:ep (ks.map Tre.kind) [⟨c,lo,900⟩,⟨d,1,1⟩]=true):∃ ps b,ks=ps++[b]/\lo<=ps.length/\(∀ t∈ps,c.is t.kind=true)/\d.is b.kind=true:=by
 have:=CM ⟨c,lo,900⟩ [d] (ks.map Tre.kind) (by simpa using hl);rw[show (⟨c,lo,900⟩::[d].map λ c=>(⟨c,1,1⟩:mv))=[⟨c,lo,900⟩,⟨d,1,1⟩] from rfl]at this;rw[this]at h;simp only[cb,eg,List.length_map,eX,k0]at h;obtain⟨h1,h2,h3⟩:=h;obtain⟨ps,b,rfl⟩:=ny (l:=ks) (by omega);simp only[cO,eX,k0,db,Nat.add_sub_cancel,List.map_append]at h1 h2 h3;rw[List.take_left' (by simp)]at h2;rw[List.drop_left' (by simp)]at h3;have h3:ep ([b].map Tre.kind) [⟨d,1,1⟩]=true:=h3;obtain⟨b',e,h3⟩:=nW h3;obtain rfl:b=b':=by simpa using e
 exact⟨ps,b,rfl,by omega,by simpa using h2,h3⟩
theorem On {c d:jv} {ks:List Tre} (h:ep (ks.map Tre.kind) [⟨c,1,1⟩,⟨d,1,1⟩]=true):∃ a b,ks=[a,b]/\c.is a.kind=true/\d.is b.kind=true:=by
 have hl:=pn [c,d] _ h
 match ks,hl with
 | [a,b],_ =>
   have:=xS c [d] a.kind [b.kind] rfl;have h:ep (a.kind::[b.kind]) (⟨c,1,1⟩::[d].map λ c=>⟨c,1,1⟩)=true:=h;rw[this,cb]at h;obtain⟨b',e,h3⟩:=nW (ks:=[b]) (c:=d) h.2;obtain rfl:b=b':=by simpa using e
   exact⟨a,b,rfl,h.1,h3⟩
theorem Oo {c d e:jv} {ks:List Tre} (h:ep (ks.map Tre.kind) [⟨c,1,1⟩,⟨d,1,1⟩,⟨e,1,1⟩]=true):∃ a b g,ks=[a,b,g]/\c.is a.kind=true/\d.is b.kind=true/\e.is g.kind=true:=by
 have hl:=pn [c,d,e] _ h
 match ks,hl with
 | [a,b,g],_ =>
   have:=xS c [d,e] a.kind [b.kind,g.kind] rfl;have h:ep (a.kind::[b.kind,g.kind]) (⟨c,1,1⟩::[d,e].map λ c=>⟨c,1,1⟩)=true:=h;rw[this,cb]at h;obtain⟨b',g',e',h3,h4⟩:=On (ks:=[b,g]) (c:=d) (d:=e) h.2;simp only[List.cons.injEq,and_true]at e';obtain⟨rfl,rfl⟩:=e';exact⟨a,b,g,rfl,h.1,h3,h4⟩
theorem zb {c d e:jv} {lo:Nat} {ks:List Tre} (hl:ks.length<=902) (h:ep (ks.map Tre.kind) [⟨c,lo,900⟩,⟨d,1,1⟩,⟨e,1,1⟩]=true):∃ ps a b,ks=ps++[a,b]/\lo<=ps.length/\(∀ t∈ps,c.is t.kind=true)/\d.is a.kind=true/\e.is b.kind=true:=by
 have:=CM ⟨c,lo,900⟩ [d,e] (ks.map Tre.kind) (by simpa using hl);rw[show (⟨c,lo,900⟩::[d,e].map λ c=>(⟨c,1,1⟩:mv))=[⟨c,lo,900⟩,⟨d,1,1⟩,⟨e,1,1⟩] from rfl]at this;rw[this]at h;simp only[cb,eg,List.length_map,eX,k0]at h;obtain⟨h1,h2,h3⟩:=h;obtain⟨qs,b,rfl⟩:=ny (l:=ks) (by omega);obtain⟨ps,a,rfl⟩:=ny (l:=qs) (by simp at h1; omega);have e2:(ps++[a]++[b]).length-(0+1+1)=ps.length:=by simp
 rw[e2]at h2 h3;simp only[List.map_append,dc]at h2 h3;rw[List.take_left' (by simp)]at h2;rw[List.drop_left' (by simp)]at h3;have h3:ep ([a,b].map Tre.kind) [⟨d,1,1⟩,⟨e,1,1⟩]=true:=h3;obtain⟨a',b',e',h3,h4⟩:=On h3;simp only[List.cons.injEq,and_true]at e';obtain⟨rfl,rfl⟩:=e';exact⟨ps,a,b,by simp,by simp at h1; omega,by simpa using h2,h3,h4⟩
theorem iw {k:Int} {x:aG} {n m a z:Int} {f:gS} (h:eF ⟨k,x,n,m,a,z⟩ f=true):(f.text=false->x=[])/\(f.text=true->x≠[]/\kH x=true)/\dV n=true/\dV m=true/\(f.n=false->n=0)/\(f.m=false->m=0):=by
 simp only[eF,cb,kJ,beq_iff_eq]at h;obtain⟨⟨⟨⟨⟨h1,h2⟩,h3⟩,h4⟩,h5⟩,h6⟩:=h;refine⟨λ e=>?_,λ e=>⟨?_,?_⟩,h3,h4,λ e=>?_,λ e=>?_⟩
 . rw[e]at h1; simpa using h1.symm
 . rw[e]at h1; simpa using h1.symm
 . rw[e]at h2; simpa using h2
 . rw[e]at h5; simpa using h5
 . rw[e]at h6; simpa using h6
end Go.Rip
namespace Go.Rip
section
variable {L:List Tk} {E:Nat}
theorem Av {t:Tre} (ho:t.ok=true) (hk:pA t.kind=true):kN L (λ i=>gn L E i) t.pr t.flat/\∀ f,kN L (λ i=>jI L E f i) t.pr t.flat:=by
 cases t with
 | mk k x n m a ks =>
   have pO:k=6\/k=7:=of_decide_eq_true hk;obtain⟨f,hf,h1,h2,_⟩:=Tre.ru ho;have ly:f=⟨false,true,false,[]⟩:=by rcases pO with rfl|rfl<;>simpa [bG] using hf.symm
   subst ly;obtain⟨e1,_,hn,_,_,e2⟩:=iw h1;have e1:=e1 rfl;have e2:=e2 rfl;have iW:ks=[]:=by
    have:(ks.map Tre.kind).isEmpty=true:=h2;simpa using this
   subst e1 e2 iW;have hp:(Tre.mk k [] n 0 a []).pr=B2 k n:=by
    rw[Tre.cG];rcases pO with rfl|rfl<;>simp[aV,B2]
   rw[hp,Tre.oM,Tre.nh];exact⟨Nw pO hn,λ f=>S7 pO hn⟩
theorem II {t:Tre} (ho:t.ok=true) (hk:qw t.kind=true) {f:Nat} (hf:L.length<f):kN L (λ i=>jI L E f i) t.pr t.flat:=by
 by_cases hb:pA t.kind=true
 . exact (Av ho hb).2 f
 cases t with
 | mk k x n m a ks =>
   have hk:k=8:=by
    have h1:k=6\/k=7\/k=8:=of_decide_eq_true hk;have h2:¬ (k=6\/k=7):=λ e=>hb (decide_eq_true e);omega
   subst hk;obtain⟨fo,eJ,h1,h2,h3⟩:=Tre.ru ho;obtain rfl:(⟨false,false,false,[⟨.base,2,900⟩]⟩:gS)=fo:=by simpa [bG] using eJ
   obtain⟨e1,_,_,_,e2,e3⟩:=iw h1;have e1:=e1 rfl;have e2:=e2 rfl;have e3:=e3 rfl;subst e1 e2 e3;obtain⟨hl,hb⟩:=Cg h2;obtain⟨ps,b,rfl⟩:=ny (l:=ks) (by omega);have uP:1<=ps.length:=by simp at hl; omega
   obtain⟨p,ps,rfl⟩:∃ p q,ps=p::q:=by
    cases ps with
    | nil=>simp at uP
    | cons p q=>exact⟨p,q,rfl⟩
   have ck:∀ t∈p::ps++[b],kN L (λ i=>gn L E i) t.pr t.flat:=λ t ht=>(Av (h3 t ht) (hb t ht)).1;have key:=Qj (L:=L) (E:=E) (a:=a) (p:=(p.pr,p.flat)) (P:=ps.map λ t=>(t.pr,t.flat)) hf (λ q hq=>by
    have hq:q∈(p::ps).map λ t=>(t.pr,t.flat):=hq;obtain⟨t,ht,rfl⟩:=List.mem_map.1 hq;exact ck t (List.mem_append_left _ ht)) (ck b (by simp))
   have hp:(Tre.mk 8 [] 0 0 a (p::ps++[b])).pr=aB bK::(dh cH (((p.pr,p.flat)::ps.map λ t=>(t.pr,t.flat)).map Prod.fst)++aB bJ::aB fY::b.pr):=by
    rw[Tre.cG];have e:(p::ps++[b]).map (λ t=>(t.kind,t.pr))=((p::ps).map λ t=>(t.kind,t.pr))++[(b.kind,b.pr)]:=by simp
    rw[e];generalize hq:(p::ps).map (λ t=>(t.kind,t.pr))=q;have e2:(p.pr,p.flat)::ps.map (λ t=>(t.pr,t.flat))=(p::ps).map λ t=>(t.pr,t.flat):=rfl;rw[e2,List.map_map];have e3:(p::ps).map (Prod.fst ∘ λ t=>(t.pr,t.flat))=q.map (·.2):=by rw[<- hq,List.map_map]; rfl
    rw[e3];simp[aV,oC]
   have e2:(p.pr,p.flat)::ps.map (λ t=>(t.pr,t.flat))=(p::ps).map λ t=>(t.pr,t.flat):=rfl;rw[e2,Tre.TK]at key;rw[hp,Tre.oM,Tre.fy,e2];simpa using key
theorem QH {t:Tre} (ho:t.ok=true) (hk:t.kind=5) {f:Nat} (hf:L.length<f):kN L (λ i=>j0 L E f i) t.pr t.flat/\∃ c r,t.pr=eK c::r:=by
 cases t with
 | mk k x n m a ks =>
   obtain rfl:k=5:=hk;obtain⟨fo,eJ,h1,h2,h3⟩:=Tre.ru ho;obtain rfl:(⟨true,false,false,[⟨.type,1,1⟩]⟩:gS)=fo:=by simpa [bG] using eJ
   obtain⟨_,_,_,_,e2,e3⟩:=iw h1;have e2:=e2 rfl;have e3:=e3 rfl;subst e2 e3;obtain⟨b,rfl,hb⟩:=nW h2;have hp:(Tre.mk 5 x 0 0 a [b]).pr=eK x::aB dk::b.pr:=by rw[Tre.cG]; simp[aV]
   rw[hp,Tre.oM];exact⟨by simpa using XY (a:=a) (x:=x) (II (h3 b (by simp)) hb hf),_,_,rfl⟩
theorem G8 {t:Tre} (ho:t.ok=true) (hk:t.kind=37):kN L (λ i=>lS L E i) t.pr t.flat:=by
 cases t with
 | mk k x n m a ks =>
   obtain rfl:k=37:=hk;obtain⟨fo,eJ,h1,h2,h3⟩:=Tre.ru ho;obtain rfl:(⟨true,false,false,[]⟩:gS)=fo:=by simpa [bG] using eJ
   obtain⟨_,_,_,_,e2,e3⟩:=iw h1;have e2:=e2 rfl;have e3:=e3 rfl;have iW:ks=[]:=by
    have:(ks.map Tre.kind).isEmpty=true:=h2;simpa using this
   subst e2 e3 iW;have hp:(Tre.mk 37 x 0 0 a []).pr=[eK x]:=by rw[Tre.cG]; simp[aV]
   rw[hp,Tre.oM,Tre.nh];exact aa6
theorem Xb {k a:Int} {A B:Tre} (hk:k∈oQ) (h8:k≠25) (gA:Good L E A.kind A.pr A.flat) (gB:Good L E B.kind B.pr B.flat) :
 Good L E k (dP A.kind (if bP k=5 then 6 else bP k) A.pr++aB (ki k)::dP B.kind (bP k+1) B.pr) (node k [] 0 0 a (A.flat++B.flat)):=by
 have hop:∀ y r',aB (ki k)::dP B.kind (bP k+1) B.pr=y::r'->Qy y:=by
  intro y r' e;obtain⟨rfl,_⟩:=List.cons.inj e;simp only[oQ,cK,List.not_mem_nil,or_false]at hk;rcases hk with rfl|rfl|rfl|rfl|rfl|rfl|rfl|rfl<;>decide
 have hl:(bP k=2\/bP k=3\/bP k=6\/bP k=7)\/bP k=5:=by
  simp only[oQ,cK,List.not_mem_nil,or_false]at hk;rcases hk with rfl|rfl|rfl|rfl|rfl|rfl|rfl|rfl
  all_goals first
   | exact absurd rfl h8
   | decide
 have hd:Hd (bP k) (dP A.kind (if bP k=5 then 6 else bP k) A.pr++aB (ki k)::dP B.kind (bP k+1) B.pr):=by
  refine (Hd.app (gA.Pp) hop).low ?_;split<;>omega
 rcases hl with hl|hl
 . rw[if_neg (by omega)]at hd ⊢;exact NQ (by omega) (ad7 hk (by omega) (by omega) (gA.ad4 (by omega)) (gB.Pq (by omega) (bX _) (by omega)) (by omega)) hd
 . rw[if_pos hl]at hd ⊢;have:=abY (a:=a) hk hl (gA.Pq (lev:=6) (least:=6) (by omega) (by omega) (by omega)) (gB.Pq (lev:=6) (least:=bP k+1) (by omega) (by omega) (by omega));exact Cc (by omega) (hl.symm▸this) hd (by omega)
theorem mj {lev:Nat} {w:aG} {l:List Tx} (h1:aB w∉Dq) (h2:2<=lev->aB w∉F3) (h3:5<=lev->aB w≠aB qD):Hd lev (aB w::l) :=
 ⟨_,_,rfl,.inr (.inr rfl),h1,λ e=>⟨h2 e,λ e1=>by rcases O9 (w:=w) with h|h<;>omega⟩,h3⟩
theorem Ll {x:aG}:eK x∉Dq/\eK x∉F3/\eK x≠aB qD:=by
 refine⟨?_,?_,?_⟩<;>simp[Dq,F3,eK,aB,rO,gQ,dY,gg,dQ,pg,gH,lY,jb,ia,iU,qD,mM]
theorem PW {lev:Nat} {x:aG} {l:List Tx} (h:2<=lev->∀ y r',l=y::r'->Qy y):Hd lev (eK x::l) :=
 ⟨_,_,rfl,.inl rfl,Ll.1,λ e=>⟨Ll.2.1,λ _=>h e⟩,λ _=>Ll.2.2⟩
theorem ag8 {lev:Nat} {n:Int}:Hd lev [jh n] :=
 ⟨_,_,rfl,.inr (.inl rfl),by simp[Dq,jh,aB,rO,gQ,dY,gg,dQ,mM],λ _=>⟨by simp[F3,jh,aB,pg,gH,lY,jb,ia,iU,mM],λ e=>by cases e⟩,λ _=>by simp[jh,aB,qD,mM]⟩
theorem Dy:∀ (N:Nat) (t:Tre),t.flat.length<=N->t.flat.length<=900->t.ok=true->(cE t.kind=true->Good L E t.kind t.pr t.flat)/\(oo t.kind=true->yI L E t.pr t.flat)
 | 0,t,hN,_,_=>by have:=t.dJ; omega
 | N+1,.mk k x n m a ks,hN,h9,ho=>by
   obtain⟨fo,eJ,h1,h2,h3⟩:=Tre.ru ho;have hlen:(Tre.bu ks).length+1=(Tre.mk k x n m a ks).flat.length:=by rw[Tre.dZ]; simp
   have ih:∀ t∈ks,cE t.kind=true->Good L E t.kind t.pr t.flat:=λ t ht=>by
    have:=Tre.um ht;exact (Dy N t (by omega) (by omega) (h3 t ht)).1
   have yd:∀ t∈ks,oo t.kind=true->yI L E t.pr t.flat:=λ t ht=>by
    have:=Tre.um ht;exact (Dy N t (by omega) (by omega) (h3 t ht)).2
   have ta:ks.length<=900:=by have:=Tre.oN ks; omega
   have term:cE k=true->Good L E k (Tre.mk k x n m a ks).pr (Tre.mk k x n m a ks).flat:=by
    intro hk;obtain⟨f1,f2,f3,f4,f5,f6⟩:=iw h1;rw[Tre.cG,Tre.oM];have hk:k=9\/k=10\/k=11\/k=12\/k=13\/k=14\/k=15\/k=16\/(k∈oQ/\k≠25)\/k=19\/k=25\/k=26\/(k=27\/k=28\/k=29\/k=30)\/k=31\/k=32\/k=33\/k=34:=by
     simp only[cE,eg]at hk;simp only[oQ,cK,List.not_mem_nil,or_false];omega
    rcases hk with rfl|rfl|rfl|rfl|rfl|rfl|rfl|rfl|⟨hk,uL⟩|rfl|rfl|rfl|hk|rfl|rfl|rfl|rfl
    . obtain rfl:(⟨false,false,false,[⟨.term,2,900⟩]⟩:gS)=fo:=by simpa [bG] using eJ
      obtain rfl:=f1 rfl;obtain rfl:=f5 rfl;obtain rfl:=f6 rfl;obtain⟨hl,hc⟩:=Cg h2
      match ks,hl with
      | p::q::ks,_ =>
        have g:∀ t∈p::q::ks,Good L E t.kind t.pr t.flat:=λ t ht=>ih t ht (hc t ht);have:=YL (L:=L) (E:=E) (a:=a) (p:=(dP p.kind 1 p.pr,p.flat)) (q:=(dP q.kind 1 q.pr,q.flat)) (P:=ks.map λ t=>(dP t.kind 1 t.pr,t.flat)) (λ y hy=>by
         have hy:y∈(p::q::ks).map λ t=>(dP t.kind 1 t.pr,t.flat):=hy;obtain⟨t,ht,rfl⟩:=List.mem_map.1 hy;exact⟨(g t ht).j6,(g t ht).Pp.low (Nat.zero_le 1)⟩)
        have e2:(dP p.kind 1 p.pr,p.flat)::(dP q.kind 1 q.pr,q.flat)::ks.map (λ t=>(dP t.kind 1 t.pr,t.flat))=(p::q::ks).map λ t=>(dP t.kind 1 t.pr,t.flat):=rfl;rw[e2,Tre.TK (f:=λ t=>dP t.kind 1 t.pr),List.map_map]at this;have hp:aV 9 [] 0 0 ((p::q::ks).map λ t=>(t.kind,t.pr))=dh cC ((p::q::ks).map (Prod.fst ∘ λ t=>(dP t.kind 1 t.pr,t.flat))):=by
         simp only[aV,List.map_map]; rfl
        rw[hp];refine⟨this,λ e=>absurd rfl e,λ e=>by exact absurd e (by decide),λ e=>by exact absurd e (by decide),?_⟩;rw[dH,oR];refine Hd.app ((g p (by simp)).Pp.low (by decide:bP 9<=1)) λ y r' e=>?_;rw[dH,List.flatMap_cons]at e;obtain⟨rfl,_⟩:=List.cons.inj e;decide
    . obtain rfl:(⟨false,false,false,[⟨.term,3,3⟩]⟩:gS)=fo:=by simpa [bG] using eJ
      obtain rfl:=f1 rfl;obtain rfl:=f5 rfl;obtain rfl:=f6 rfl;obtain⟨A,B,C,rfl,hA,hB,hC⟩:=Z3 h2;have:=W5 (a:=a) (ih A (by simp) hA).j6 (ih B (by simp) hB).j6 (ih C (by simp) hC).j6;refine oW (by decide) (by simpa [aV] using this) ?_;simp only[aV];exact mj (by decide) (by omega) (by omega)
    . obtain rfl:(⟨false,false,false,[⟨.term,2,2⟩]⟩:gS)=fo:=by simpa [bG] using eJ
      obtain rfl:=f1 rfl;obtain rfl:=f5 rfl;obtain rfl:=f6 rfl;obtain⟨A,B,rfl,hA,hB⟩:=za h2;have:=MT (a:=a) (ih A (by simp) hA).j6 (ih B (by simp) hB).j6;refine oW (by decide) (by simpa [aV] using this) ?_;simp only[aV];exact mj (by decide) (by omega) (by omega)
    . obtain rfl:(⟨true,true,true,[⟨.term,1,1⟩]⟩:gS)=fo:=by simpa [bG] using eJ
      obtain⟨A,rfl,hA⟩:=nW h2;have:=R7 (a:=a) (x:=x) f3 f4 (ih A (by simp) hA).j6;refine oW (by decide) (by simpa [aV] using this) ?_;simp only[aV];exact mj (by decide) (by omega) (by omega)
    . obtain rfl:(⟨true,false,false,[⟨.term,2,2⟩]⟩:gS)=fo:=by simpa [bG] using eJ
      obtain rfl:=f5 rfl;obtain rfl:=f6 rfl;obtain⟨A,B,rfl,hA,hB⟩:=za h2;have:=MS (a:=a) (x:=x) (ih A (by simp) hA).j6 (ih B (by simp) hB).j6;refine oW (by decide) (by simpa [aV] using this) ?_;simp only[aV];exact mj (by decide) (by omega) (by omega)
    . obtain rfl:(⟨true,true,false,[⟨.term,1,1⟩]⟩:gS)=fo:=by simpa [bG] using eJ
      obtain rfl:=f6 rfl;obtain⟨A,rfl,hA⟩:=nW h2;have:=Kb (a:=a) (x:=x) f3 (ih A (by simp) hA).j6;refine oW (by decide) (by simpa [aV] using this) ?_;simp only[aV];exact mj (by decide) (by omega) (by omega)
    . obtain rfl:(⟨false,false,false,[⟨.term,2,2⟩]⟩:gS)=fo:=by simpa [bG] using eJ
      obtain rfl:=f1 rfl;obtain rfl:=f5 rfl;obtain rfl:=f6 rfl;obtain⟨A,B,rfl,hA,hB⟩:=za h2;have:=Ka (a:=a) (ih A (by simp) hA).j6 (ih B (by simp) hB).j6;refine oW (by decide) (by simpa [aV] using this) ?_;simp only[aV];exact mj (by decide) (by omega) (by omega)
    . obtain rfl:(⟨true,false,false,[⟨.term,1,1⟩]⟩:gS)=fo:=by simpa [bG] using eJ
      obtain rfl:=f5 rfl;obtain rfl:=f6 rfl;obtain⟨A,rfl,hA⟩:=nW h2;have:=R8 (a:=a) (x:=x) (ih A (by simp) hA).j6;refine oW (by decide) (by simpa [aV] using this) ?_;simp only[aV];exact PW (by omega)
    . have ly:fo=⟨false,false,false,[⟨.term,2,2⟩]⟩:=by
       simp only[oQ,cK,List.not_mem_nil,or_false]at hk;rcases hk with rfl|rfl|rfl|rfl|rfl|rfl|rfl|rfl
       all_goals first
        | exact absurd rfl uL
        | simpa [bG] using eJ.symm
      subst ly;obtain rfl:=f1 rfl;obtain rfl:=f5 rfl;obtain rfl:=f6 rfl;obtain⟨A,B,rfl,hA,hB⟩:=za h2;have:=Xb (a:=a) hk uL (ih A (by simp) hA) (ih B (by simp) hB);have hp:aV k [] 0 0 ([A,B].map λ t=>(t.kind,t.pr))=dP A.kind (if bP k=5 then 6 else bP k) A.pr++aB (ki k)::dP B.kind (bP k+1) B.pr:=by
       simp only[oQ,cK,List.not_mem_nil,or_false]at hk;rcases hk with rfl|rfl|rfl|rfl|rfl|rfl|rfl|rfl
       all_goals first
        | exact absurd rfl uL
        | simp[aV,bP]
      rw[hp];simpa using this
    . obtain rfl:(⟨false,false,false,[⟨.term,1,1⟩]⟩:gS)=fo:=by simpa [bG] using eJ
      obtain rfl:=f1 rfl;obtain rfl:=f5 rfl;obtain rfl:=f6 rfl;obtain⟨A,rfl,hA⟩:=nW h2;have:=ae4 (a:=a) ((ih A (by simp) hA).Pq (lev:=4) (least:=4) (by omega) (by omega) (by omega));refine Cc (k:=19) (by decide) (show nE L E 4 _ _ from by simpa [aV] using this) ?_ (λ e=>absurd e (by decide));simp only[aV];exact mj (by decide) (λ _=>by decide) (λ e=>absurd e (by decide))
    . obtain rfl:(⟨false,true,false,[⟨.term,1,1⟩]⟩:gS)=fo:=by simpa [bG] using eJ
      obtain rfl:=f1 rfl;obtain rfl:=f6 rfl;obtain⟨A,rfl,hA⟩:=nW h2;have g:=ih A (by simp) hA;have:=agP (a:=a) f3 (g.ad4 (lev:=8) (by omega));refine NQ (k:=25) (by decide) (show uy L E 8 _ _ from by simpa [aV] using this) ?_;have hp:aV 25 [] n 0 ([A].map λ t=>(t.kind,t.pr))=dP A.kind 8 A.pr++[aB uI,jh n]:=by simp[aV]
      rw[hp];refine Hd.app g.Pp λ y r' e=>?_;obtain⟨rfl,_⟩:=List.cons.inj e;decide
    . obtain rfl:(⟨false,true,false,[]⟩:gS)=fo:=by simpa [bG] using eJ
      obtain rfl:=f1 rfl;obtain rfl:=f6 rfl;obtain rfl:ks=[]:=by
       have:(ks.map Tre.kind).isEmpty=true:=h2;simpa using this
      refine ni (by decide) (by simpa [aV] using WD (a:=a) f3) ?_;simp only[aV];exact ag8
    . have ly:fo=⟨false,false,false,[]⟩:=by rcases hk with rfl|rfl|rfl|rfl<;>simpa [bG] using eJ.symm
      subst ly;obtain rfl:=f1 rfl;obtain rfl:=f5 rfl;obtain rfl:=f6 rfl;obtain rfl:ks=[]:=by
       have:(ks.map Tre.kind).isEmpty=true:=h2;simpa using this
      rcases hk with rfl|rfl|rfl|rfl
      . exact ni (by decide) (by simpa [aV] using wj (a:=a) (k:=27) (w:=dN) (by decide)) (by simp only[aV]; exact mj (by decide) (λ _=>by decide) (λ _=>by decide))
      . exact ni (by decide) (by simpa [aV] using wj (a:=a) (k:=28) (w:=dR) (by decide)) (by simp only[aV]; exact mj (by decide) (λ _=>by decide) (λ _=>by decide))
      . exact ni (by decide) (by simpa [aV] using wj (a:=a) (k:=29) (w:=fU) (by decide)) (by simp only[aV]; exact mj (by decide) (λ _=>by decide) (λ _=>by decide))
      . exact ni (by decide) (by simpa [aV] using wj (a:=a) (k:=30) (w:=ik) (by decide)) (by simp only[aV]; exact mj (by decide) (λ _=>by decide) (λ _=>by decide))
    . obtain rfl:(⟨true,false,false,[]⟩:gS)=fo:=by simpa [bG] using eJ
      obtain rfl:=f5 rfl;obtain rfl:=f6 rfl;obtain rfl:ks=[]:=by
       have:(ks.map Tre.kind).isEmpty=true:=h2;simpa using this
      refine ni (by decide) (by simpa [aV] using Ru (a:=a)) ?_;simp only[aV];exact mj (by decide) (λ _=>by decide) (λ _=>by decide)
    . obtain rfl:(⟨true,false,false,[]⟩:gS)=fo:=by simpa [bG] using eJ
      obtain rfl:=f5 rfl;obtain rfl:=f6 rfl;obtain rfl:ks=[]:=by
       have:(ks.map Tre.kind).isEmpty=true:=h2;simpa using this
      refine ni (by decide) (by simpa [aV] using WC (a:=a)) ?_;simp only[aV];exact mj (by decide) (λ _=>by decide) (λ _=>by decide)
    . obtain rfl:(⟨true,false,false,[]⟩:gS)=fo:=by simpa [bG] using eJ
      obtain rfl:=f5 rfl;obtain rfl:=f6 rfl;obtain rfl:ks=[]:=by
       have:(ks.map Tre.kind).isEmpty=true:=h2;simpa using this
      refine ni (by decide) (by simpa [aV] using Rv (a:=a)) ?_;simp only[aV];exact PW λ _ y r' e=>by cases e
    . obtain rfl:(⟨true,false,false,[⟨.arg,1,900⟩]⟩:gS)=fo:=by simpa [bG] using eJ
      obtain rfl:=f5 rfl;obtain rfl:=f6 rfl;obtain⟨hl,hc⟩:=Cg h2
      match ks,hl with
      | p::ks,_ =>
        have:=Rs (L:=L) (E:=E) (a:=a) (x:=x) (p:=(p.pr,p.flat)) (P:=ks.map λ t=>(t.pr,t.flat)) (λ y hy=>by
         have hy:y∈(p::ks).map λ t=>(t.pr,t.flat):=hy;obtain⟨t,ht,rfl⟩:=List.mem_map.1 hy;exact yd t ht (hc t ht))
        have e2:(p.pr,p.flat)::ks.map (λ t=>(t.pr,t.flat))=(p::ks).map λ t=>(t.pr,t.flat):=rfl;rw[e2,Tre.TK (f:=Tre.pr),List.map_map]at this;have hp:aV 34 x 0 0 ((p::ks).map λ t=>(t.kind,t.pr))=eK x::aB bK::dh cH ((p::ks).map (Prod.fst ∘ λ t=>(t.pr,t.flat)))++[aB bJ]:=by
         simp only[aV,List.map_map]; rfl
        rw[hp];refine ni (by decide) this (PW λ _ y r' e=>?_);obtain⟨rfl,_⟩:=List.cons.inj e;decide
   refine⟨term,λ hk=>?_⟩
   by_cases ht:cE k=true
   . exact (term ht).arg
   have hk:k=35\/k=36:=by
    have hk:oo k=true:=hk;simp only[oo,cE,eg]at hk ht;omega
   obtain⟨f1,f2,f3,f4,f5,f6⟩:=iw h1;rw[Tre.cG,Tre.oM];rcases hk with rfl|rfl
   . obtain rfl:(⟨false,false,false,[⟨.kind 37,1,900⟩,⟨.term,1,1⟩]⟩:gS)=fo:=by simpa [bG] using eJ
     obtain rfl:=f1 rfl;obtain rfl:=f5 rfl;obtain rfl:=f6 rfl;obtain⟨ps,b,rfl,hl,uP,hb⟩:=ET (by omega) h2;obtain⟨p,ps,rfl⟩:∃ p q,ps=p::q:=by
      cases ps with
      | nil=>simp at hl
      | cons p q=>exact⟨p,q,rfl⟩
     have gb:=ih b (by simp) hb;have key:=adW (L:=L) (E:=E) (a:=a) (p:=(p.pr,p.flat)) (P:=ps.map λ t=>(t.pr,t.flat)) (λ q hq=>by
      have hq:q∈(p::ps).map λ t=>(t.pr,t.flat):=hq;obtain⟨t,ht,rfl⟩:=List.mem_map.1 hq;exact G8 (h3 t (List.mem_append_left _ ht)) (by simpa [jv.is] using uP t ht)) gb.j6
     have e2:(p.pr,p.flat)::ps.map (λ t=>(t.pr,t.flat))=(p::ps).map λ t=>(t.pr,t.flat):=rfl;rw[e2,Tre.TK]at key;have hp:aV 35 [] 0 0 ((p::ps++[b]).map λ t=>(t.kind,t.pr))=aB rO::aB bK::(dh cH (((p::ps).map λ t=>(t.pr,t.flat)).map Prod.fst)++aB bJ::dP b.kind 1 b.pr):=by
      have e:(p::ps++[b]).map (λ t=>(t.kind,t.pr))=((p::ps).map λ t=>(t.kind,t.pr))++[(b.kind,b.pr)]:=by simp
      rw[e];generalize hq:(p::ps).map (λ t=>(t.kind,t.pr))=q;rw[List.map_map];have e3:(p::ps).map (Prod.fst ∘ λ t=>(t.pr,t.flat))=q.map (·.2):=by rw[<- hq,List.map_map]; rfl
      rw[e3];simp[aV,oC]
     rw[hp,Tre.fy];simpa using key
   . obtain rfl:(⟨false,false,false,[⟨.term,1,1⟩,⟨.kind 37,1,1⟩,⟨.term,1,1⟩]⟩:gS)=fo:=by simpa [bG] using eJ
     obtain rfl:=f1 rfl;obtain rfl:=f5 rfl;obtain rfl:=f6 rfl;obtain⟨A,B,C,rfl,hA,hB,hC⟩:=Oo h2;have key:=Pj (a:=a) (ih A (by simp) hA).j6 (G8 (E:=E) (h3 B (by simp)) (by simpa [jv.is] using hB)) (ih C (by simp) hC).j6;simpa [aV] using key
theorem SZ {t:Tre} (h9:t.flat.length<=900) (ho:t.ok=true) (hk:jB t.kind=true):Jz L E t.pr t.flat:=by
 cases t with
 | mk k x n m a ks =>
   obtain⟨fo,eJ,h1,h2,h3⟩:=Tre.ru ho;have hlen:(Tre.bu ks).length+1=(Tre.mk k x n m a ks).flat.length:=by rw[Tre.dZ]; simp
   have ta:ks.length<=900:=by have:=Tre.oN ks; omega
   obtain⟨f1,f2,f3,f4,f5,f6⟩:=iw h1;rw[Tre.cG,Tre.oM];have pO:k=2\/(k=3\/k=4):=by
    have hk:jB k=true:=hk;simp only[jB,eg]at hk;omega
   rcases pO with rfl|pO
   . obtain rfl:(⟨true,false,false,[⟨.type,1,1⟩]⟩:gS)=fo:=by simpa [bG] using eJ
     obtain rfl:=f5 rfl;obtain rfl:=f6 rfl;obtain⟨b,rfl,hb⟩:=nW h2;have:=MZ (L:=L) (E:=E) (a:=a) (x:=x) λ f hf=>II (h3 b (by simp)) hb hf;simpa [aV] using this
   . have ly:fo=⟨true,false,false,[⟨.kind 5,0,900⟩,⟨.base,1,1⟩,⟨.term,1,1⟩]⟩:=by rcases pO with rfl|rfl<;>simpa [bG] using eJ.symm
     subst ly;obtain rfl:=f5 rfl;obtain rfl:=f6 rfl;obtain⟨ps,b,c,rfl,hl,uP,hb,hc⟩:=zb (by omega) h2;have hcl:=Tre.um (ks:=ps++[b,c]) (t:=c) (by simp);have gc:=(Dy (L:=L) (E:=E) _ c (bX _) (by omega) (h3 c (by simp))).1 hc;have gb:=(Av (L:=L) (E:=E) (h3 b (by simp)) hb).1;have key:=XD (L:=L) (E:=E) (a:=a) (k:=k) (x:=x) (ps:=ps.map λ t=>(t.pr,t.flat)) pO (λ f hf q hq=>by
      obtain⟨t,ht,rfl⟩:=List.mem_map.1 hq;exact QH (h3 t (List.mem_append_left _ ht)) (by simpa [jv.is] using uP t ht) hf) gb gc.term
     rw[Tre.TK,List.map_map]at key;have hp:aV k x 0 0 ((ps++[b,c]).map λ t=>(t.kind,t.pr))=aB (if k=3 then gg else dQ)::eK x::aB bK::(dh cH (ps.map (Prod.fst ∘ λ t=>(t.pr,t.flat)))++aB bJ::aB dk::(b.pr++aB gP::(c.pr++[aB cC]))):=by
      have e:(ps++[b,c]).map (λ t=>(t.kind,t.pr))=(ps.map λ t=>(t.kind,t.pr))++[(b.kind,b.pr),(c.kind,c.pr)]:=by simp
      rw[e];generalize hq:ps.map (λ t=>(t.kind,t.pr))=q;have e3:ps.map (Prod.fst ∘ λ t=>(t.pr,t.flat))=q.map (·.2):=by rw[<- hq,List.map_map]; rfl
      rw[e3];have el:(q++[(b.kind,b.pr),(c.kind,c.pr)]).length-2=q.length:=by simp
      have RW:(q++[(b.kind,b.pr),(c.kind,c.pr)]).length-1=q.length+1:=by simp
      rcases pO with rfl|rfl<;>simp[aV,el,RW,oC]
     rw[hp,Tre.fy];simpa using key
end
end Go.Rip
namespace Go.Rip
def jK (x:Tx):Prop:=x.2≠[]/\iK x.2=(0,x.1,x.2)
instance (x:Tx):Decidable (jK x):=inferInstanceAs (Decidable (_/\_))
theorem aaY:∀ w∈lW++jt,jK (aB w):=by decide
theorem ahn {x:aG} (h:kH x=true) (h0:x≠[]):jK (eK x):=⟨h0,of_decide_eq_true h⟩
theorem Oj {n:Nat} (h:n<10):gK (48+n).toUInt8=true:=by
 have:(48+n).toUInt8.toNat=48+n:=by simp[Nat.toUInt8,UInt8.toNat_ofNat']; omega
 rw[jA]; omega
theorem DE:∀ (f n:Nat),(lV f n).all gK=true
 | 0,n=>rfl
 | f+1,n=>by
   unfold lV;split
   . rename_i h;simp only[List.all_cons,List.all_nil,Bool.and_true];exact Oj h
   . rw[List.all_append,DE f];simp only[List.all_cons,List.all_nil,Bool.and_true,Bool.true_and];exact Oj (Nat.mod_lt _ (by decide))
theorem Ok:∀ (f n:Nat),lV (f+1) n≠[]
 | f,n=>by
   unfold lV;split<;>simp
theorem HK:∀ (f n:Nat),1<=n->n<10 ^ f->(lV f n).head?≠some 48
 | 0,n,h,h'=>by simp at h'; omega
 | f+1,n,h,h'=>by
   unfold lV;split
   . rename_i h9;simp only[List.head?_cons,ne_eq,iI];intro e;have e2:(48+n).toUInt8.toNat=48+n:=by simp[Nat.toUInt8,UInt8.toNat_ofNat']; omega
     rw[e]at e2;have:(48:UInt8).toNat=48:=rfl;omega
   . rename_i h9;have ih:=HK f (n / 10) (by omega) (by rw[Nat.pow_succ]at h'; omega);have hn:lV f (n / 10)≠[]:=by
      cases f with
      | zero=>simp at h'; omega
      | succ f=>exact Ok f _
     rw[List.head?_append];cases hh:(lV f (n / 10)).head? with
     | none=>exact absurd (List.head?_eq_none_iff.1 hh) hn
     | some c=>rw[hh]at ih; simpa using ih
theorem afD {s:aG} (h:s.all gK=true):s.takeWhile dj=s:=by
 have:∀ x∈s,dj x=true:=λ x hx=>by
  have:=fm.1 h x hx;simp[dj,this]
 clear h
 induction s with
 | nil=>rfl
 | cons c s ih=>rw[mV,this c (by simp),if_pos rfl,ih λ x hx=>this x (by simp[hx])]
theorem aab {n:Int} (h:dV n=true):jK (jh n):=by
 have hn:=of_decide_eq_true h;have akF:(1000000:Nat)<10 ^ 20:=by decide
 have hd:=DE 20 n.toNat;have ca:=Ok 19 n.toNat;have hv:=JZ h;refine⟨ca,?_⟩;have htw:=afD hd;obtain⟨c,r,hcr⟩:∃ c r,lV 20 n.toNat=c::r:=by
  cases e:lV 20 n.toNat with
  | nil=>exact absurd e ca
  | cons c r=>exact⟨c,r,rfl⟩
 show iK (nH n)=(0,2,nH n);have hE:pI (nH n)=0:=by
  unfold pI;rw[if_neg (by unfold nH; simp[hd]),if_neg ?_,if_neg ?_]
  . have h1:=vo (nH n) 0 hd (by omega);have hle:=Gy (nH n) 0 (by omega);show ¬ 1000000<kW 0 (nH n);have key:∀ (s:aG) (a b:Int),s.all gK=true->0<=b->min b 1000001=a->kW a s=min (lT b s) 1000001:=by
     intro s
     induction s with
     | nil=>intro a b _ _ e; show a=_; rw[<- e]; rfl
     | cons c s ih =>
       intro a b hs hb e;simp only[List.all_cons,cb]at hs;have hc:=jA.1 hs.1;exact ih _ (10*b+((c.toNat:Int)-48)) hs.2 (by omega) (by show min _ _=min (10*a+((c.toNat:Int)-48)) 1000001; omega)
    have:=key (nH n) 0 0 hd (by omega) rfl;have hv:lT 0 (nH n)=n:=hv;rw[this,hv]; omega
  . rintro⟨h1,h2⟩
    by_cases h9:n.toNat<10
    . unfold nH lV at h1;rw[if_pos h9]at h1;simp at h1
    . exact HK 20 n.toNat (by omega) (by omega) h2
 unfold iK;simp only;unfold nH at hE ⊢;rw[htw,hcr];rw[hcr]at hE;have hc:gK c=true:=by
  rw[hcr]at hd;simp only[List.all_cons,cb]at hd;exact hd.1
 simp only[hc,if_true,hE]
theorem OW:∀ w∈jt,∃ c r,w=c::r/\dj c=false/\c≠62/\c≠32/\c≠10/\c≠126/\(c=61->w=gP):=by
 intro w hw;simp only[jt,cK,List.not_mem_nil,or_false]at hw;rcases hw with rfl|rfl|rfl|rfl|rfl|rfl|rfl|rfl|rfl|rfl|rfl|rfl|rfl|rfl|rfl|rfl<;>exact⟨_,_,rfl,by decide,by decide,by decide,by decide,by decide,by decide⟩
theorem acD {c:UInt8} (h:dj c=true):c≠62/\c≠32/\c≠10/\c≠126/\c≠61:=by
 refine⟨?_,?_,?_,?_,?_⟩<;>(rintro rfl; exact absurd h (by decide))
theorem vZ {x:Tx} (h:jK x):∃ c r,x.2=c::r/\c≠62/\c≠32/\c≠10/\c≠126/\(c=61->x.2=gP)/\(x.1=4->dj c=false/\x.2∈jt)/\(x.1≠4->x.2.all dj=true/\x.1≠4):=by
 have key:(∃ c r,x.2=c::r/\dj c=true)->x.1≠4->x.2.all dj=true->∃ c r,x.2=c::r/\c≠62/\c≠32/\c≠10/\c≠126/\(c=61->x.2=gP)/\(x.1=4->dj c=false/\x.2∈jt)/\(x.1≠4->x.2.all dj=true/\x.1≠4):=by
  rintro⟨c,r,e,hc⟩ h4 ha;obtain⟨a1,a2,a3,a4,a5⟩:=acD hc;exact⟨c,r,e,a1,a2,a3,a4,λ e=>absurd e a5,λ e=>absurd e h4,λ _=>⟨ha,h4⟩⟩
 have kw:∀ w∈lW,w.all dj=true:=by decide
 have first:∀ {s:aG},s≠[]->s.all dj=true->∃ c r,s=c::r/\dj c=true:=by
  intro s h0 h;cases s with
  | nil=>exact absurd rfl h0
  | cons c r=>simp only[List.all_cons,cb]at h; exact⟨c,r,rfl,h.1⟩
 rcases ql h.2 with k|k|k|k
 . exact key (first h.1 k.2.2.2.2) (by omega) k.2.2.2.2
 . have hd:=(Cm (D4 (by rw[h.2,k.1]) h.1)).1;have ha:x.2.all dj=true:=by
    rw[fm]at hd ⊢;intro c hc; simp[dj,hd c hc]
   exact key (first h.1 ha) (by omega) ha
 . exact key (first h.1 (kw _ k.2)) (by omega) (kw _ k.2)
 . obtain⟨c,r,e,h1,h2,h3,h4,h5,h6⟩:=OW _ k.2;exact⟨c,r,e,h2,h3,h4,h5,h6,λ _=>⟨h1,k.2⟩,λ h=>absurd k.1 h⟩
theorem Mn {p:UInt8->Bool}:∀ {s t:aG},s.all p=true->(∀ c r,t=c::r->p c=false)->(s++t).takeWhile p=s
 | [],[],_,_=>rfl
 | [],c::r,_,h=>by rw[eH,mV,h c r rfl]; rfl
 | c::s,t,h,k=>by
   simp only[List.all_cons,cb]at h;rw[dK,mV,h.1,if_pos rfl,Mn h.2 k]
theorem YQ {s t:aG} (h0:s≠[]) (h:s.all dj=true) (k:∀ c r,t=c::r->dj c=false):iK (s++t)=iK s:=by
 have e1:=Mn h k;have e2:=Mn (t:=[]) h (by simp);rw[gx]at e2;unfold iK;simp only[e1,e2];cases s with
 | nil=>exact absurd rfl h0
 | cons c s=>rfl
theorem YT {w t:aG} (hw:w∈jt) (h1:w=dk->∀ c r,t=c::r->c≠61) (h2:w=sX->∀ c r,t=c::r->c≠62):iK (w++t)=(0,4,w):=by
 obtain⟨c,r,e,hc,_⟩:=OW w hw;have etw:(w++t).takeWhile dj=[]:=by rw[e,dK,mV,hc]; rfl
 unfold iK;simp only[etw];have hf:jt.find? (λ x=>x.isPrefixOf (w++t))=some w:=by
  simp only[jt,cK,List.not_mem_nil,or_false]at hw;rcases hw with rfl|rfl|rfl|rfl|rfl|rfl|rfl|rfl|rfl|rfl|rfl|rfl|rfl|rfl|rfl|rfl
  all_goals first
   | rfl
   | (cases t with
      | nil=>rfl
      | cons c r =>
        have e2:((62:UInt8)==c)=false:=by simp[Ne.symm (h2 rfl c r rfl)]
        simp[jt,List.find?,List.isPrefixOf,bQ,fY,gP,ud,ub,sX,e2])
   | (cases t with
      | nil=>rfl
      | cons c r =>
        have e2:((61:UInt8)==c)=false:=by simp[Ne.symm (h1 rfl c r rfl)]
        simp[jt,List.find?,List.isPrefixOf,bQ,fY,gP,ud,ub,sX,u9,mT,bK,bJ,gQ,jJ,cH,cC,dk,e2])
 rw[hf]
def GX (a:Tx) (t:aG):Prop:=(a.1≠4->∀ c r,t=c::r->dj c=false)/\(a.2=dk->∀ c r,t=c::r->c≠61)/\∀ c r,t=c::r->c≠62
theorem YR {a:Tx} {t:aG} (h:jK a) (k:GX a t):iK (a.2++t)=(0,a.1,a.2):=by
 obtain⟨c,r,e,_,_,_,_,_,h4,hn⟩:=vZ h
 by_cases h':a.1=4
 . rw[YT (h4 h').2 k.2.1 λ _=>k.2.2,h']
 . rw[YQ h.1 (hn h').1 (k.1 h'),h.2]
theorem wm {a:Tx} {c:UInt8} {t:aG} (h:c=32\/c=10):GX a (c::t):=by
 refine⟨λ _ c' r e=>?_,λ _ c' r e=>?_,λ c' r e=>?_⟩
 all_goals
  obtain⟨rfl,_⟩:=List.cons.inj e;rcases h with rfl|rfl<;>decide
theorem Nx {a:Tx}:GX a []:=⟨λ _ c r e=>(nomatch e),λ _ c r e=>(nomatch e),λ c r e=>(nomatch e)⟩
theorem JM {a b:Tx} {t:aG} (ha:jK a) (hb:jK b) (h:fG a b=false):GX a (b.2++t):=by
 obtain⟨c,r,e,h62,_,_,_,Zo,h4,hn⟩:=vZ hb;simp only[fG,Bool.or_eq_false_iff,Bool.and_eq_false_iff,bne_eq_false_iff_eq,beq_eq_false_iff_ne]at h;rw[e];refine⟨λ h1 c' r' e'=>?_,λ h1 c' r' e'=>?_,λ c' r' e'=>?_⟩
 all_goals obtain⟨rfl,_⟩:=List.cons.inj e'
 . rcases h.1 with h|h
   . exact absurd h h1
   . exact (h4 h).1
 . intro e61;rcases h.2 with h|h
   . exact h h1
   . exact h (Zo e61)
 . exact h62
theorem nA {a b:Tx} {l:List Tx}:cR (a::b::l)=a.2++(if fG a b then [32] else [])++cR (b::l):=rfl
theorem Wg {b:Tx} {l:List Tx}:∃ t,cR (b::l)=b.2++t:=by
 cases l with
 | nil=>exact⟨[],by simp[cR]⟩
 | cons c l=>exact⟨_,by rw[nA,dc]⟩
theorem zh {s:aG} {p f:Nat} {acc:List Tk} {a:Tx} {t:aG} (h:jK a) (hs:s.drop p=a.2++t) (hb:GX a t):eR (f+1) s p acc=if acc.length=900 then .bad p 5 else eR f s (p+a.2.length) (acc++[⟨a.1,a.2,p⟩]):=by
 obtain⟨c,r,e,_,h32,pM,AP,_⟩:=vZ h;have ht:=YR h hb;rw[e]at hs ht;rw[eR,hs];rw[dK]at ht ⊢;have n32:c.toNat≠32:=λ e=>h32 (UInt8.toNat_inj.1 e);have n10:c.toNat≠10:=λ e=>pM (UInt8.toNat_inj.1 e);have n126:c.toNat≠126:=λ e=>AP (UInt8.toNat_inj.1 e);simp only[n32,n10,n126,or_self,if_false,ht,ne_eq,not_true];rw[e]
theorem Be {s:aG} {p f:Nat} {acc:List Tk} {c:UInt8} {t:aG} (hs:s.drop p=c::t) (hc:c=32\/c=10):eR (f+1) s p acc=eR f s (p+1) acc:=by
 rw[eR,hs];rcases hc with rfl|rfl<;>rfl
theorem yP {s t:aG} {p:Nat} (h:s.drop p=t) (h0:t≠[]):p+t.length=s.length:=by
 have:=congrArg List.length h;have:0<t.length:=List.length_pos_iff.2 h0;simp at *; omega
theorem vA {s a t:aG} {p:Nat} (h:s.drop p=a++t):s.drop (p+a.length)=t:=by rw[<- List.drop_drop,h,List.drop_left]
theorem HY {s:aG}:∀ (l:List Tx) (acc:List Tk) (p f:Nat) (rest:aG),(∀ x∈l,jK x)->s.drop p=cR l++rest->(rest=[]\/∃ r,rest=10::r)->s.length-p<=f->acc.length<=900 ->
 (acc.length+l.length<=900->∃ ts f',ts.map tx=l/\s.length-(p+(cR l).length)<=f'/\eR f s p acc=eR f' s (p+(cR l).length) (acc++ts))/\(900<acc.length+l.length->∃ q,eR f s p acc=.bad q 5)
 | [],acc,p,f,rest,hl,hs,hr,hf,ha=>⟨λ _=>⟨[],f,rfl,by simpa [cR] using hf,by simp[cR]⟩,λ h=>by simp at h; omega⟩
 | [a],acc,p,f,rest,hl,hs,hr,hf,ha=>by
   have h:=hl a (by simp);have hs:s.drop p=a.2++rest:=hs;have hb:GX a rest:=by
    rcases hr with rfl|⟨r,rfl⟩
    . exact Nx
    . exact wm (.inr rfl)
   have ca:a.2++rest≠[]:=by simp[h.1]
   have:=yP hs ca;have hp:0<a.2.length:=List.length_pos_iff.2 h.1;simp only[cO]at this;obtain⟨f,rfl⟩:∃ g,f=g+1:=⟨f-1,by omega⟩;rw[zh h hs hb];refine⟨λ h9=>⟨[⟨a.1,a.2,p⟩],f,rfl,by simp[cR]; omega,?_⟩,λ h9=>⟨p,?_⟩⟩
   . rw[if_neg (by simp at h9; omega)]; rfl
   . rw[if_pos (by simp at h9; omega)]
 | a::b::l,acc,p,f,rest,hl,hs,hr,hf,ha=>by
   have h:=hl a (by simp);have hb:=hl b (by simp);rw[nA]at hs;have hp:0<a.2.length:=List.length_pos_iff.2 h.1;have key:∀ (p' f':Nat),(p'=p+a.2.length+(if fG a b then [(32:UInt8)] else []).length)->s.drop p'=cR (b::l)++rest->s.length-p'<=f'->(acc.length≠900->eR f s p acc=eR f' s p' (acc++[⟨a.1,a.2,p⟩]))->(acc.length=900->eR f s p acc=.bad p 5) ->
    (acc.length+(a::b::l).length<=900->∃ ts f',ts.map tx=a::b::l/\s.length-(p+(cR (a::b::l)).length)<=f'/\eR f s p acc=eR f' s (p+(cR (a::b::l)).length) (acc++ts))/\(900<acc.length+(a::b::l).length->∃ q,eR f s p acc=.bad q 5):=by
    intro p' f' CU fp ly e1 e2
    by_cases h9:acc.length=900
    . exact⟨λ h=>by simp at h; omega,λ _=>⟨p,e2 h9⟩⟩
    . obtain⟨k1,k2⟩:=HY (b::l) (acc++[⟨a.1,a.2,p⟩]) p' f' rest (λ x hx=>hl x (by simp only[cK]at hx ⊢; exact .inr hx)) fp hr ly (by simp; omega);have hlen:p'+(cR (b::l)).length=p+(cR (a::b::l)).length:=by rw[nA,CU]; simp only[cO]; omega
      refine⟨λ h=>?_,λ h=>?_⟩
      . obtain⟨ts,g,t1,t2,t3⟩:=k1 (by simp only[cO,eX,k0]at h ⊢; omega);rw[hlen]at t2 t3;refine⟨⟨a.1,a.2,p⟩::ts,g,by rw[dH,t1]; rfl,t2,?_⟩;rw[e1 h9,t3,dc]; rfl
      . obtain⟨q,t3⟩:=k2 (by simp only[cO,eX,k0]at h ⊢; omega);exact⟨q,by rw[e1 h9,t3]⟩
   cases xX:fG a b with
   | false =>
     rw[xX]at hs key;simp only[bZ,if_false,gx,k0,Nat.add_zero]at hs key;rw[dc]at hs;obtain⟨t,ht⟩:=Wg (b:=b) (l:=l);have rZ:s.drop p=a.2++(b.2++(t++rest)):=by rw[hs,ht,dc]
     have hbh:=JM (t:=t++rest) h hb xX;have:=yP rZ (by simp[h.1]);simp only[cO]at this;obtain⟨f,rfl⟩:∃ g,f=g+1:=⟨f-1,by omega⟩;have gr:=zh (f:=f) (acc:=acc) h rZ hbh;refine key _ f rfl (vA hs) (by omega) (λ h9=>by rw[gr,if_neg h9]) λ h9=>by rw[gr,if_pos h9]
   | true =>
     rw[xX]at hs key;simp only[if_true,eX,k0,db]at hs key;have rZ:s.drop p=a.2++(32::(cR (b::l)++rest)):=by rw[hs]; simp
     have hbh:GX a (32::(cR (b::l)++rest)):=wm (.inl rfl);have:=yP rZ (by simp[h.1]);simp only[cO,eX]at this;obtain⟨f,rfl⟩:∃ g,f=g+1:=⟨f-1,by omega⟩;obtain⟨f,rfl⟩:∃ g,f=g+1:=⟨f-1,by omega⟩;have gr:=zh (f:=f+1) (acc:=acc) h rZ hbh;have hd:=vA rZ;refine key _ f rfl (by rw[<- List.drop_drop,hd]; rfl) (by omega) (λ h9=>by rw[gr,if_neg h9,Be hd (.inl rfl)]) λ h9=>by rw[gr,if_pos h9]
end Go.Rip
namespace Go.Rip
theorem DY {w:aG} {x:Tx}:∀ {ls:List (List Tx)},x∈dh w ls->x=aB w\/∃ l∈ls,x∈l
 | [],h=>by simp[dh]at h
 | [l],h=>.inr ⟨l,by simp,h⟩
 | l::m::ls,h=>by
   rw[dh,fT,cK]at h;rcases h with h|h|h
   . exact .inr ⟨l,by simp,h⟩
   . exact .inl h
   . rcases DY h with h|⟨k,h1,h2⟩
     . exact .inl h
     . exact .inr ⟨k,List.mem_cons_of_mem _ h1,h2⟩
theorem NC {k:Int} {n:Nat} {l:List Tx} {x:Tx} (h:x∈dP k n l):x=aB bK\/x=aB bJ\/x∈l:=by
 unfold dP at h;split at h
 . exact .inr (.inr h)
 . simp only[dK,cK,fT,List.not_mem_nil,or_false]at h;rcases h with h|h|h
   . exact .inl h
   . exact .inr (.inr h)
   . exact .inr (.inl h)
theorem abt {c:Prop} [Decidable c] {x:Tx} {A B:List Tx} {G:Prop} (h:x∈if c then A else B) (h1:c->x∈A->G) (h2:¬ c->x∈B->G):G:=by
 split at h
 . exact h1 ‹_› h
 . exact h2 ‹_› h
theorem TF {P:Tx->Prop} {k:Int} {t:aG} {n m:Int} {ks:List (Int×List Tx)} {f:gS} (hf:bG k=some f) (hw:∀ w∈lW++jt,P (aB w)) (ht:f.text=true->P (eK t)) (hn:P (jh n)) (hm:P (jh m)) (hk:∀ y∈ks,∀ x∈y.2,P x):∀ x∈aV k t n m ks,P x:=by
 have hg:∀ i,∀ x∈(ks.getD i (0,[])).2,P x:=by
  intro i x hx;rw[oC]at hx;cases h:ks[i]? with
  | none=>rw[h]at hx; simp at hx
  | some y=>rw[h]at hx; exact hk y (gw h) x hx
 have hb:∀ least i,∀ x∈dP (ks.getD i (0,[])).1 least (ks.getD i (0,[])).2,P x:=by
  intro least i x hx;rcases NC hx with rfl|rfl|h
  . exact hw _ (by decide)
  . exact hw _ (by decide)
  . exact hg i x h
 have hs:∀ w∈lW++jt,∀ j,∀ x∈dh w ((ks.map (·.2)).take j),P x:=by
  intro w SL j x hx;rcases DY hx with rfl|⟨l,h1,h2⟩
  . exact hw _ SL
  . obtain⟨y,hy,rfl⟩:=List.mem_map.1 (List.mem_of_mem_take h1);exact hk y hy x h2
 have fp:∀ w∈lW++jt,∀ x∈dh w (ks.map (·.2)),P x:=by
  intro w SL x hx;exact hs w SL ks.length x (by rw[qg (by simp)]; exact hx)
 have hq:∀ x∈dh cC (ks.map λ x=>dP x.1 1 x.2),P x:=by
  intro x hx;rcases DY hx with rfl|⟨l,h1,h2⟩
  . exact hw _ (by decide)
  . obtain⟨y,hy,rfl⟩:=List.mem_map.1 h1;rcases NC h2 with rfl|rfl|h
    . exact hw _ (by decide)
    . exact hw _ (by decide)
    . exact hk y hy x h
 have aiV:∀ k,P (aB (ki k)):=by
  intro k;unfold ki
  repeat' split
  all_goals exact hw _ (by decide)
 have Ko:∀ c:Prop,[Decidable c]->P (aB (if c then gg else dQ)):=by
  intro c _;split<;>exact hw _ (by decide)
 intro x hx;have W:∀ w∈lW++jt,x=aB w->P x:=λ w SL e=>e▸hw w SL;have key:(∀ j,x∈(ks.getD j (0,[])).2->P x)/\(∀ l j,x∈dP (ks.getD j (0,[])).1 l (ks.getD j (0,[])).2->P x):=⟨λ j=>hg j x,λ l j=>hb l j x⟩;unfold aV at hx;simp only at hx;have jV:(k=2\/k=3\/k=4\/k=5\/k=12\/k=13\/k=14\/k=16\/k=31\/k=32\/k=33\/k=37\/k=34)->P (eK t):=by
  intro h;apply ht;rcases h with rfl|rfl|rfl|rfl|rfl|rfl|rfl|rfl|rfl|rfl|rfl|rfl|rfl<;>(simp[bG]at hf; rw[<- hf])
 repeat' (refine abt hx (λ c hx=>?_) (λ c hx=>?_))
 all_goals try simp only[dK,dc,cK,fT,List.not_mem_nil,or_false,false_or]at hx
 all_goals try exact hx.elim
 all_goals repeat' (refine Or.elim hx (λ hx=>?_) (λ hx=>?_))
 all_goals first
  | (subst hx; first|exact hw _ (by decide)|exact hn|exact hm|exact aiV _|exact Ko _|exact jV (by omega))
  | exact hg _ _ hx
  | exact hb _ _ _ hx
  | exact hs _ (by decide) _ _ hx
  | exact fp _ (by decide) _ hx
  | exact hq _ hx
theorem Fi:∀ (N:Nat) (t:Tre),t.flat.length<=N->t.ok=true->∀ x∈t.pr,jK x
 | 0,t,hN,_=>by have:=t.dJ; omega
 | N+1,.mk k tx n m a ks,hN,ho=>by
   obtain⟨fo,eJ,h1,h2,h3⟩:=Tre.ru ho;have hlen:(Tre.bu ks).length+1=(Tre.mk k tx n m a ks).flat.length:=by rw[Tre.dZ]; simp
   obtain⟨f1,f2,f3,f4,f5,f6⟩:=iw h1;rw[Tre.cG];refine TF eJ aaY (λ e=>ahn (f2 e).2 (f2 e).1) (aab f3) (aab f4) λ y hy=>?_;obtain⟨t,ht,rfl⟩:=List.mem_map.1 hy;have:=Tre.um ht;exact Fi N t (by omega) (h3 t ht)
end Go.Rip
namespace Go.Rip
def gN:List Tre->aG->aG×Int
 | [],acc=>if 2500<acc.length then ([],5) else (acc,0)
 | t::ts,acc=>if (fA t.pr).2≠0 then ([],(fA t.pr).2) else gN ts (acc++(fA t.pr).1++[10])
def nX (t:Tre):aG×Int:=if t.kind≠1 then fA t.pr else gN t.kids []
def fM (ts:List Tre):aG:=ts.flatMap λ t=>cR t.pr++[10]
def fN (ts:List Tre):List Tx:=ts.flatMap Tre.pr
theorem ID {l:List Tx} (h:(fA l).2=0):(fA l).1=cR l/\l.length<=900/\(cR l).length<=2500:=by
 unfold fA at h ⊢;split at h
 . cases h
 . rename_i h1;split at h
   . cases h
   . rename_i h2;rw[if_neg h1,if_neg h2];exact⟨rfl,by omega,by omega⟩
theorem Mh:∀ (ts:List Tre) (acc:aG),(gN ts acc).2=0->(gN ts acc).1=acc++fM ts/\(acc++fM ts).length<=2500
 | [],acc,h=>by
   unfold gN at h ⊢;split at h
   . cases h
   . rename_i h1;rw[if_neg h1];exact⟨by simp[fM],by simp[fM]; omega⟩
 | t::ts,acc,h=>by
   unfold gN at h ⊢;split at h
   . exact absurd h ‹_›
   . rename_i h1;rw[if_neg h1];have h1:=Decidable.not_not.1 h1;obtain⟨e,_,_⟩:=ID h1;have:=Mh ts _ h;rw[e]at this ⊢;simpa [fM] using this
theorem DC {t:Tre} (ho:t.ok=true) (hk:jB t.kind=true):∃ w r,t.pr=aB w::r/\w∈[dY,gg,dQ]:=by
 cases t with
 | mk k x n m a ks =>
   rw[Tre.cG];have hk:k=2\/k=3\/k=4:=by
    have h:2<=k/\k<=4:=of_decide_eq_true hk;omega
   rcases hk with rfl|rfl|rfl
   . exact⟨dY,_,rfl,by decide⟩
   . exact⟨gg,_,rfl,by decide⟩
   . exact⟨dQ,_,rfl,by decide⟩
theorem abo {L:List Tk} {i:Nat} {w:aG} {l:List Tx} (hw:w∈[dY,gg,dQ]) (h:At L i (aB w::l)):uF L i=true:=by
 unfold uF;simp only[cK,List.not_mem_nil,or_false]at hw;rcases hw with rfl|rfl|rfl<;>simp[fQ h]
theorem HX {s:aG}:∀ (ts:List Tre) (acc:List Tk) (p f:Nat),(∀ t∈ts,t.ok=true)->s.drop p=fM ts->s.length-p<=f->acc.length<=900 ->
 (acc.length+(fN ts).length<=900->∃ l,l.map tx=fN ts/\eR f s p acc=.ok (acc++l))/\(900<acc.length+(fN ts).length->∃ q,eR f s p acc=.bad q 5)
 | [],acc,p,f,ho,hs,hf,ha=>by
   refine⟨λ _=>⟨[],rfl,?_⟩,λ h=>by simp[fN]at h; omega⟩;cases f with
   | zero=>simp[eR]
   | succ f =>
     have hs:s.drop p=[]:=hs;rw[eR,hs]; simp
 | t::ts,acc,p,f,ho,hs,hf,ha=>by
   have hs:s.drop p=cR t.pr++(10::fM ts):=by rw[hs]; simp[fM]
   obtain⟨k1,k2⟩:=HY (s:=s) t.pr acc p f (10::fM ts) (Fi _ t (bX _) (ho t (by simp))) hs (.inr ⟨_,rfl⟩) hf ha;have hx:(fN (t::ts)).length=t.pr.length+(fN ts).length:=by simp[fN]
   rw[hx]
   by_cases h9:acc.length+t.pr.length<=900
   . obtain⟨l0,f',e0,ly,e1⟩:=k1 h9;have rY:l0.length=t.pr.length:=by rw[<- e0]; simp
     have hd:=vA hs;have hdl:=yP hd (by simp);simp only[eX]at hdl;obtain⟨f',rfl⟩:∃ g,f'=g+1:=⟨f'-1,by omega⟩;rw[e1,Be hd (.inr rfl)];have qV:s.drop (p+(cR t.pr).length+1)=fM ts:=by rw[<- List.drop_drop,hd]; rfl
     obtain⟨m1,m2⟩:=HX ts (acc++l0) (p+(cR t.pr).length+1) f' (λ u hu=>ho u (by simp[hu])) qV (by omega) (by simp; omega);refine⟨λ h=>?_,λ h=>?_⟩
     . obtain⟨l,e2,e3⟩:=m1 (by rw[cO,rY]; omega);exact⟨l0++l,by rw[List.map_append,e0,e2]; rfl,by rw[e3,dc]⟩
     . exact m2 (by rw[cO,rY]; omega)
   . exact⟨λ h=>by omega,λ _=>k2 (by omega)⟩
theorem Mp {x:Tx} (h:jK x):∀ c∈x.2,lA c=true:=by
 have aln:∀ c,dj c=true->lA c=true:=by
  intro c hc;simp only[dj,gK,mM,Jj,lA,kJ,eg]at hc ⊢;omega
 obtain⟨c,r,e,_,_,_,_,_,h4,hn⟩:=vZ h
 by_cases h':x.1=4
 . have key:∀ w∈jt,∀ c∈w,lA c=true:=by decide
   exact key _ (h4 h').2
 . intro c hc;exact aln c (fm.1 (hn h').1 c hc)
theorem IE:∀ (l:List Tx),(∀ x∈l,jK x)->∀ c∈cR l,lA c=true
 | [],_,c,h=>by simp[cR]at h
 | [a],ho,c,h=>Mp (ho a (by simp)) c h
 | a::b::l,ho,c,h=>by
   rw[nA,fT,fT]at h;rcases h with (h|h)|h
   . exact Mp (ho a (by simp)) c h
   . split at h
     . rw[kn]at h; subst h; decide
     . cases h
   . exact IE (b::l) (λ x hx=>ho x (by simp only[cK]at hx ⊢; exact .inr hx)) c h
theorem abA {ts:List Tre} (ho:∀ t∈ts,t.ok=true):∀ c∈fM ts,lA c=true:=by
 intro c hc;obtain⟨t,ht,h⟩:=List.mem_flatMap.1 hc;rw[fT,kn]at h;rcases h with h|rfl
 . exact IE _ (Fi _ t (bX _) (ho t ht)) c h
 . decide
theorem Ox {ts:List Tre} (ho:∀ t∈ts,t.ok=true) (hl:(fM ts).length<=2500) :
 ((fN ts).length<=900->∃ l,l.map tx=fN ts/\ix (fM ts)=.ok l)/\(900<(fN ts).length->∃ q,ix (fM ts)=.bad q 5):=by
 have hc:rD (fM ts)=(0,0):=by
  unfold rD;rw[if_neg (by omega)];have:(fM ts).findIdx? (λ c=>!lA c)=none:=by
   rw[List.findIdx?_eq_none_iff];intro c hc;simp[abA ho c hc]
  rw[this]
 obtain⟨k1,k2⟩:=HX (s:=fM ts) ts [] 0 (fM ts).length ho rfl (by omega) (by simp);have he:ix (fM ts)=eR (fM ts).length (fM ts) 0 []:=by unfold ix; rw[hc]; simp
 rw[he];simp only[k0,db,eH]at k1 k2;exact⟨k1,k2⟩
theorem KZ {L:List Tk} {E:Nat}:∀ (ts:List Tre) (acc:List Nd) (i f:Nat),(∀ t∈ts,t.ok=true/\jB t.kind=true/\t.flat.length<=900)->At L i (fN ts)->i+(fN ts).length=L.length->L.length-i<f->∃ ns,bz ns=bz (Tre.bu ts)/\ku L E f acc i=.ok (acc++ns) L.length
 | [],acc,i,f,ho,hi,hl,hf=>by
   obtain⟨f,rfl⟩:∃ g,f=g+1:=⟨f-1,by omega⟩;have hl:i=L.length:=hl;refine⟨[],by simp,?_⟩;rw[ku,if_neg (by omega),hl]; simp
 | t::ts,acc,i,f,ho,hi,hl,hf=>by
   obtain⟨f,rfl⟩:∃ g,f=g+1:=⟨f-1,by omega⟩;obtain⟨h1,h2,h3⟩:=ho t (by simp);have hx:fN (t::ts)=t.pr++fN ts:=rfl;rw[hx]at hi hl;rw[cO]at hl;obtain⟨w,r,hw,_⟩:=DC h1 h2;have mD:0<t.pr.length:=by rw[hw]; simp
   have eJ:i+t.pr.length=L.length\/uF L (i+t.pr.length)=true:=by
    cases ts with
    | nil=>left; simp[fN]at hl; exact hl
    | cons u us =>
      right;obtain⟨k1,k2,k3⟩:=ho u (by simp);obtain⟨w,r,hw,hm⟩:=DC k1 k2;have:=hi.app.2;rw[show fN (u::us)=u.pr++fN us from rfl,hw]at this;exact abo hm this
   obtain⟨n0,b0,p0⟩:=SZ (L:=L) (E:=E) h3 h1 h2 i hi.app.1 eJ (fuel L) (by unfold fuel; omega) (by unfold fuel; omega);obtain⟨ns,b1,p1⟩:=KZ ts (acc++n0) (i+t.pr.length) f (λ u hu=>ho u (by simp[hu])) hi.app.2 (by omega) (by omega);refine⟨n0++ns,by rw[Tre.cM]; exact iq b0 b1,?_⟩;rw[ku,if_pos (by omega),p0,aX,p1,dc]
theorem agK {l:List Nd} {i:Nat}:(bz l)[i]?=l[i]?.map λ x=>{ x with at_:=0 }:=by simp[bz]
theorem Hl:∀ (l:List Nd) (n:Nat) (es:List Int),jd (bz l) n es=jd l n es
 | [],n,es=>rfl
 | x::l,n,es=>by
   show jd ({ x with at_:=0 }::bz l) n es=_
   rw[jd,jd,Hl l]
theorem Om (l:List Nd) (en:Int):∀ (f p:Nat),fO (bz l) en f p=fO l en f p
 | 0,p=>rfl
 | f+1,p=>by
   rw[fO,fO,agK];cases l[p]? with
   | none=>rfl
   | some x=>simp only[Option.map_some,Om l en f]
theorem Sc {a b:List Nd} (h:bz a=bz b):jU a=jU b:=by
 have key:∀ l,jU (bz l)=jU l:=by
  intro l;unfold jU;rw[Hl,Om];have:mQ (bz l)=mQ l:=by cases l<;>rfl
  rw[this];simp[bz]
 rw[<- key a,<- key b,h]
end Go.Rip
