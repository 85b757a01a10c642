/- Lemmas for the proof: no conditions. -/
import Derived.Test.YtnfpmiiopiinbaaGreatDoorRipZz
import Derived.Test.YtnfpmiiopiinbaaGreatDoorRipYe
set_option linter.unusedVariables false
set_option linter.unusedSimpArgs false
set_option linter.loopingSimpArgs false
namespace Go.Rip
theorem Tre.Nt:∀ ts:List Tre,Tre.Ns ts=ts.map fun t=>(t.kind,t.pr)
 | []=>by rw [Tre.Ns]; rfl
 | t::ts=>by rw [Tre.Ns,Tre.Nt ts]; rfl
theorem Tre.fF (k:Int) (x:aQ) (n m a:Int) (ks:List Tre):(Tre.mk k x n m a ks).pr=dH k x n m (ks.map fun t=>(t.kind,t.pr)):=by rw [Tre.pr,Tre.Nt]
theorem Tre.I0:∀ {ts:List Tre},Tre.sv ts=true->∀ t ∈ ts,t.ok=true
 | [],_,t,h=>by cases h
 | t::ts,h,u,hu=>by
   rw [Tre.sw,bL] at h
   rcases cD.1 hu with rfl | hu
   . exact h.1
   . exact Tre.I0 h.2 u hu
theorem Tre.Bt {k:Int} {x:aQ} {n m a:Int} {ks:List Tre} (h:(Tre.mk k x n m a ks).ok=true):∃ f,cx k=some f/\jL ⟨k,x,n,m,a,0⟩ f=true/\eu (ks.map Tre.kind) f.kids=true/\∀ t ∈ ks,t.ok=true:=by
 rw [Tre.ok,bL] at h
 obtain ⟨h1,h2⟩:=h
 split at h1
 . rename_i f hf
   rw [bL] at h1
   exact ⟨f,hf,h1.1,h1.2,Tre.I0 h2⟩
 . cases h1
theorem Tre.Bi {ks:List Tre} {t:Tre} (h:t ∈ ks):t.flat.length <= (Tre.bA ks).length:=by
 obtain ⟨a,b,rfl⟩:=List.append_of_mem h
 rw [Tre.mX,Tre.cW]; simp; omega
theorem rB {c:n6} {ks:List Tre} (h:eu (ks.map Tre.kind) [⟨c,1,1⟩]=true):∃ a,ks=[a]/\c.is a.kind=true:=by
 rw [yH] at h
 match ks,h with
 | [],h=>simp at h
 | [a],h=>exact ⟨a,rfl,by simpa using h⟩
 | a::b::r,h=>simp at h
theorem Kg {c:n6} {ks:List Tre} (h:eu (ks.map Tre.kind) [⟨c,2,2⟩]=true):∃ a b,ks=[a,b]/\c.is a.kind=true/\c.is b.kind=true:=by
 rw [yH] at h
 match ks,h with
 | [],h=>simp at h
 | [a],h=>simp at h
 | [a,b],h=>exact ⟨a,b,rfl,by simpa using h⟩
 | a::b::c::r,h=>simp at h
theorem abv {c:n6} {ks:List Tre} (h:eu (ks.map Tre.kind) [⟨c,3,3⟩]=true):∃ a b d,ks=[a,b,d]/\c.is a.kind=true/\c.is b.kind=true/\c.is d.kind=true:=by
 rw [yH] at h
 match ks,h with
 | [],h=>simp at h
 | [a],h=>simp at h
 | [a,b],h=>simp at h
 | [a,b,d],h=>exact ⟨a,b,d,rfl,by simpa using h⟩
 | a::b::c::d::r,h=>simp at h
theorem Kh {c:n6} {lo hi:Nat} {ks:List Tre} (h:eu (ks.map Tre.kind) [⟨c,lo,hi⟩]=true):lo <= ks.length/\∀ t ∈ ks,c.is t.kind=true:=by
 rw [yH] at h
 simp only [bL,dI,List.length_map,eC,List.mem_map,forall_exists_index,and_imp,forall_apply_eq_imp_iff₂] at h
 exact ⟨h.1.1,h.2⟩
theorem lM {α:Type}:∀ {l:List α},1 <= l.length->∃ r x,l=r++[x]:=fun {l} h=>⟨l.dropLast,l.getLast (by intro e; subst e; simp at h),(List.dropLast_concat_getLast _).symm⟩
theorem Ki {c d:n6} {lo:Nat} {ks:List Tre} (hl:ks.length <= 901) (h:eu (ks.map Tre.kind) [⟨c,lo,900⟩,⟨d,1,1⟩]=true):∃ ps b,ks=ps++[b]/\lo <= ps.length/\(∀ t ∈ ps,c.is t.kind=true)/\d.is b.kind=true:=by
 have:=zd ⟨c,lo,900⟩ [d] (ks.map Tre.kind) (by simpa using hl)
 rw [show (⟨c,lo,900⟩::[d].map fun c=>(⟨c,1,1⟩:mG))=[⟨c,lo,900⟩,⟨d,1,1⟩] from rfl] at this
 rw [this] at h
 simp only [bL,dI,List.length_map,jf,oQ] at h
 obtain ⟨h1,h2,h3⟩:=h
 obtain ⟨ps,b,rfl⟩:=lM (l:=ks) (by omega)
 simp only [dh,jf,oQ,cV,Nat.add_sub_cancel,List.map_append] at h1 h2 h3
 rw [List.take_left' (by simp)] at h2
 rw [List.drop_left' (by simp)] at h3
 have h3:eu ([b].map Tre.kind) [⟨d,1,1⟩]=true:=h3
 obtain ⟨b',e,h3⟩:=rB h3
 obtain rfl:b=b':=by simpa using e
 exact ⟨ps,b,rfl,by omega,by simpa using h2,h3⟩
theorem IQ {c d:n6} {ks:List Tre} (h:eu (ks.map Tre.kind) [⟨c,1,1⟩,⟨d,1,1⟩]=true):∃ a b,ks=[a,b]/\c.is a.kind=true/\d.is b.kind=true:=by
 have hl:=lW [c,d] _ h
 match ks,hl with
 | [a,b],_ =>
   have:=uB c [d] a.kind [b.kind] rfl
   have h:eu (a.kind::[b.kind]) (⟨c,1,1⟩::[d].map fun c=>⟨c,1,1⟩)=true:=h
   rw [this,bL] at h
   obtain ⟨b',e,h3⟩:=rB (ks:=[b]) (c:=d) h.2
   obtain rfl:b=b':=by simpa using e
   exact ⟨a,b,rfl,h.1,h3⟩
theorem UO {c d e:n6} {ks:List Tre} (h:eu (ks.map Tre.kind) [⟨c,1,1⟩,⟨d,1,1⟩,⟨e,1,1⟩]=true):∃ a b g,ks=[a,b,g]/\c.is a.kind=true/\d.is b.kind=true/\e.is g.kind=true:=by
 have hl:=lW [c,d,e] _ h
 match ks,hl with
 | [a,b,g],_ =>
   have:=uB c [d,e] a.kind [b.kind,g.kind] rfl
   have h:eu (a.kind::[b.kind,g.kind]) (⟨c,1,1⟩::[d,e].map fun c=>⟨c,1,1⟩)=true:=h
   rw [this,bL] at h
   obtain ⟨b',g',e',h3,h4⟩:=IQ (ks:=[b,g]) (c:=d) (d:=e) h.2
   simp only [List.cons.injEq,and_true] at e'
   obtain ⟨rfl,rfl⟩:=e'
   exact ⟨a,b,g,rfl,h.1,h3,h4⟩
theorem Bj {c d e:n6} {lo:Nat} {ks:List Tre} (hl:ks.length <= 902) (h:eu (ks.map Tre.kind) [⟨c,lo,900⟩,⟨d,1,1⟩,⟨e,1,1⟩]=true):∃ ps a b,ks=ps++[a,b]/\lo <= ps.length/\(∀ t ∈ ps,c.is t.kind=true)/\d.is a.kind=true/\e.is b.kind=true:=by
 have:=zd ⟨c,lo,900⟩ [d,e] (ks.map Tre.kind) (by simpa using hl)
 rw [show (⟨c,lo,900⟩::[d,e].map fun c=>(⟨c,1,1⟩:mG))=[⟨c,lo,900⟩,⟨d,1,1⟩,⟨e,1,1⟩] from rfl] at this
 rw [this] at h
 simp only [bL,dI,List.length_map,jf,oQ] at h
 obtain ⟨h1,h2,h3⟩:=h
 obtain ⟨qs,b,rfl⟩:=lM (l:=ks) (by omega)
 obtain ⟨ps,a,rfl⟩:=lM (l:=qs) (by simp at h1; omega)
 have e2:(ps++[a]++[b]).length - (0+1+1)=ps.length:=by simp
 rw [e2] at h2 h3
 simp only [List.map_append,iM] at h2 h3
 rw [List.take_left' (by simp)] at h2
 rw [List.drop_left' (by simp)] at h3
 have h3:eu ([a,b].map Tre.kind) [⟨d,1,1⟩,⟨e,1,1⟩]=true:=h3
 obtain ⟨a',b',e',h3,h4⟩:=IQ h3
 simp only [List.cons.injEq,and_true] at e'
 obtain ⟨rfl,rfl⟩:=e'
 exact ⟨ps,a,b,by simp,by simp at h1; omega,by simpa using h2,h3,h4⟩
theorem rY {k:Int} {x:aQ} {n m a z:Int} {f:jK} (h:jL ⟨k,x,n,m,a,z⟩ f=true):(f.text=false->x=[])/\(f.text=true->x ≠ []/\mD x=true)/\fQ n=true/\fQ m=true/\(f.n=false->n=0)/\(f.m=false->m=0):=by
 simp only [jL,bL,iL,beq_iff_eq] at h
 obtain ⟨⟨⟨⟨⟨h1,h2⟩,h3⟩,h4⟩,h5⟩,h6⟩:=h
 refine ⟨fun e=>?_,fun e=>⟨?_,?_⟩,h3,h4,fun e=>?_,fun e=>?_⟩
 . rw [e] at h1; simpa using h1.symm
 . rw [e] at h1; simpa using h1.symm
 . rw [e] at h2; simpa using h2
 . rw [e] at h5; simpa using h5
 . rw [e] at h6; simpa using h6
end Go.Rip
namespace Go.Rip
def qN (x:Tx):Prop:=x.2 ≠ []/\jh x.2=(0,x.1,x.2)
instance (x:Tx):Decidable (qN x):=inferInstanceAs (Decidable (_/\_))
theorem qN.tk {x:Tx} (h:qN x):qM ⟨x.1,x.2,0⟩:=h
theorem acq:∀ w ∈ lH++nZ,qN (bm w):=by decide
theorem aby {x:aQ} (h:mD x=true) (h0:x ≠ []):qN (iY x):=⟨h0,of_decide_eq_true h⟩
theorem IL {n:Nat} (h:n < 10):fS (48+n).toUInt8=true:=by
 have:(48+n).toUInt8.toNat=48+n:=by simp [Nat.toUInt8,UInt8.toNat_ofNat']; omega
 rw [kn]; omega
theorem Ga:∀ (f n:Nat),(ko f n).all fS=true
 | 0,n=>rfl
 | f+1,n=>by
   unfold ko
   split
   . rename_i h
     simp only [List.all_cons,List.all_nil,Bool.and_true]
     exact IL h
   . rw [List.all_append,Ga f]
     simp only [List.all_cons,List.all_nil,Bool.and_true,Bool.true_and]
     exact IL (Nat.mod_lt _ (by decide))
theorem IN:∀ (f n:Nat),ko (f+1) n ≠ []
 | f,n=>by
   unfold ko
   split <;> simp
theorem Dy:∀ (f n:Nat),1 <= n->n < 10 ^ f->(ko f n).head? ≠ some 48
 | 0,n,h,h'=>by simp at h'; omega
 | f+1,n,h,h'=>by
   unfold ko
   split
   . rename_i h9
     simp only [List.head?_cons,ne_eq,gK]
     intro e
     have e2:(48+n).toUInt8.toNat=48+n:=by simp [Nat.toUInt8,UInt8.toNat_ofNat']; omega
     rw [e] at e2
     have:(48:UInt8).toNat=48:=rfl
     omega
   . rename_i h9
     have ih:=Dy f (n / 10) (by omega) (by rw [Nat.pow_succ] at h'; omega)
     have hn:ko f (n / 10) ≠ []:=by
      cases f with
      | zero=>simp at h'; omega
      | succ f=>exact IN f _
     rw [List.head?_append]
     cases hh:(ko f (n / 10)).head? with
     | none=>exact absurd (List.head?_eq_none_iff.1 hh) hn
     | some c=>rw [hh] at ih; simpa using ih
theorem ZH {s:aQ} (h:s.all fS=true):s.takeWhile eO=s:=by
 have:∀ x ∈ s,eO x=true:=fun x hx=>by
  have:=eC.1 h x hx
  simp [eO,this]
 clear h
 induction s with
 | nil=>rfl
 | cons c s ih=>rw [pK,this c (by simp),if_pos rfl,ih fun x hx=>this x (by simp [hx])]
theorem Ts {n:Int} (h:fQ n=true):qN (ov n):=by
 have hn:=of_decide_eq_true h
 have aeC:(1000000:Nat) < 10 ^ 20:=by decide
 have hd:=Ga 20 n.toNat
 have bT:=IN 19 n.toNat
 have hv:=Qp h
 refine ⟨bT,?_⟩
 have htw:=ZH hd
 obtain ⟨c,r,XP⟩:∃ c r,ko 20 n.toNat=c::r:=by
  cases e:ko 20 n.toNat with
  | nil=>exact absurd e bT
  | cons c r=>exact ⟨c,r,rfl⟩
 show jh (mx n)=(0,2,mx n)
 have hE:ng (mx n)=0:=by
  unfold ng
  rw [if_neg (by unfold mx; simp [hd]),if_neg ?_,if_neg ?_]
  . have h1:=rS (mx n) 0 hd (by omega)
    have hle:=Cz (mx n) 0 (by omega)
    show ¬ 1000000 < iI 0 (mx n)
    have key:∀ (s:aQ) (a b:Int),s.all fS=true->0 <= b->min b 1000001=a->iI a s=min (pk b s) 1000001:=by
     intro s
     induction s with
     | nil=>intro a b _ _ e; show a=_; rw [<- e]; rfl
     | cons c s ih =>
       intro a b hs hb e
       simp only [List.all_cons,bL] at hs
       have hc:=kn.1 hs.1
       exact ih _ (10 * b+((c.toNat:Int) - 48)) hs.2 (by omega) (by show min _ _=min (10 * a+((c.toNat:Int) - 48)) 1000001; omega)
    have:=key (mx n) 0 0 hd (by omega) rfl
    have hv:pk 0 (mx n)=n:=hv
    rw [this,hv]; omega
  . rintro ⟨h1,h2⟩
    by_cases h9:n.toNat < 10
    . unfold mx ko at h1
      rw [if_pos h9] at h1
      simp at h1
    . exact Dy 20 n.toNat (by omega) (by omega) h2
 unfold jh
 simp only
 unfold mx at hE ⊢
 rw [htw,XP]
 rw [XP] at hE
 have hc:fS c=true:=by
  rw [XP] at hd
  simp only [List.all_cons,bL] at hd
  exact hd.1
 simp only [hc,if_true,hE]
theorem BO {a b:Tx} {l:List Tx}:fw (a::b::l)=a.2++(if qy a b then [32] else [])++fw (b::l):=rfl
end Go.Rip
namespace Go.Rip
theorem Ap {w:aQ} {x:Tx}:∀ {ls:List (List Tx)},x ∈ eE w ls->x=bm w\/∃ l ∈ ls,x ∈ l
 | [],h=>by simp [eE] at h
 | [l],h=>.inr ⟨l,by simp,h⟩
 | l::m::ls,h=>by
   rw [eE,fB,cD] at h
   rcases h with h | h | h
   . exact .inr ⟨l,by simp,h⟩
   . exact .inl h
   . rcases Ap h with h | ⟨k,h1,h2⟩
     . exact .inl h
     . exact .inr ⟨k,List.mem_cons_of_mem _ h1,h2⟩
theorem Ih {k:Int} {n:Nat} {l:List Tx} {x:Tx} (h:x ∈ gR k n l):x=bm fy\/x=bm gd\/x ∈ l:=by
 unfold gR at h
 split at h
 . exact .inr (.inr h)
 . simp only [ib,cD,fB,List.not_mem_nil,or_false] at h
   rcases h with h | h | h
   . exact .inl h
   . exact .inr (.inr h)
   . exact .inr (.inl h)
theorem UL {c:Prop} [Decidable c] {x:Tx} {A B:List Tx} {G:Prop} (h:x ∈ if c then A else B) (h1:c->x ∈ A->G) (h2:¬ c->x ∈ B->G):G:=by
 split at h
 . exact h1 ‹_› h
 . exact h2 ‹_› h
theorem Nq {P:Tx->Prop} {k:Int} {t:aQ} {n m:Int} {ks:List (Int × List Tx)} {f:jK} (hf:cx k=some f) (hw:∀ w ∈ lH++nZ,P (bm w)) (ht:f.text=true->P (iY t)) (hn:P (ov n)) (hm:P (ov m)) (hk:∀ y ∈ ks,∀ x ∈ y.2,P x):∀ x ∈ dH k t n m ks,P x:=by
 have hg:∀ i,∀ x ∈ (ks.getD i (0,[])).2,P x:=by
  intro i x hx
  rw [qf] at hx
  cases h:ks[i]? with
  | none=>rw [h] at hx; simp at hx
  | some y=>rw [h] at hx; exact hk y (fj h) x hx
 have hb:∀ least i,∀ x ∈ gR (ks.getD i (0,[])).1 least (ks.getD i (0,[])).2,P x:=by
  intro least i x hx
  rcases Ih hx with rfl | rfl | h
  . exact hw _ (by decide)
  . exact hw _ (by decide)
  . exact hg i x h
 have hs:∀ w ∈ lH++nZ,∀ j,∀ x ∈ eE w ((ks.map (·.2)).take j),P x:=by
  intro w MA j x hx
  rcases Ap hx with rfl | ⟨l,h1,h2⟩
  . exact hw _ MA
  . obtain ⟨y,hy,rfl⟩:=List.mem_map.1 (List.mem_of_mem_take h1)
    exact hk y hy x h2
 have dY:∀ w ∈ lH++nZ,∀ x ∈ eE w (ks.map (·.2)),P x:=by
  intro w MA x hx
  exact hs w MA ks.length x (by rw [pL (by simp)]; exact hx)
 have hq:∀ x ∈ eE ff (ks.map fun x=>gR x.1 1 x.2),P x:=by
  intro x hx
  rcases Ap hx with rfl | ⟨l,h1,h2⟩
  . exact hw _ (by decide)
  . obtain ⟨y,hy,rfl⟩:=List.mem_map.1 h1
    rcases Ih h2 with rfl | rfl | h
    . exact hw _ (by decide)
    . exact hw _ (by decide)
    . exact hk y hy x h
 have adj:∀ k,P (bm (ox k)):=by
  intro k
  unfold ox
  repeat' split
  all_goals exact hw _ (by decide)
 have FB:∀ c:Prop,[Decidable c]->P (bm (if c then j0 else gz)):=by
  intro c _
  split <;> exact hw _ (by decide)
 intro x hx
 have W:∀ w ∈ lH++nZ,x=bm w->P x:=fun w MA e=>e ▸ hw w MA
 have key:(∀ j,x ∈ (ks.getD j (0,[])).2->P x)/\(∀ l j,x ∈ gR (ks.getD j (0,[])).1 l (ks.getD j (0,[])).2->P x):=⟨fun j=>hg j x,fun l j=>hb l j x⟩
 unfold dH at hx
 simp only at hx
 have iX:(k=2\/k=3\/k=4\/k=5\/k=12\/k=13\/k=14\/k=16\/k=31\/k=32\/k=33\/k=37\/k=34)->P (iY t):=by
  intro h
  apply ht
  rcases h with rfl | rfl | rfl | rfl | rfl | rfl | rfl | rfl | rfl | rfl | rfl | rfl | rfl <;> (simp [cx] at hf; rw [<- hf])
 repeat' (refine UL hx (fun c hx=>?_) (fun c hx=>?_))
 all_goals try simp only [ib,iM,cD,fB,List.not_mem_nil,or_false,false_or] at hx
 all_goals try exact hx.elim
 all_goals repeat' (refine Or.elim hx (fun hx=>?_) (fun hx=>?_))
 all_goals first
  | (subst hx; first | exact hw _ (by decide) | exact hn | exact hm | exact adj _ | exact FB _ | exact iX (by omega))
  | exact hg _ _ hx
  | exact hb _ _ _ hx
  | exact hs _ (by decide) _ _ hx
  | exact dY _ (by decide) _ hx
  | exact hq _ hx
theorem Tv:∀ (N:Nat) (t:Tre),t.flat.length <= N->t.ok=true->∀ x ∈ t.pr,qN x
 | 0,t,hN,_=>by have:=t.dB; omega
 | N+1,.mk k tx n m a ks,hN,ho=>by
   obtain ⟨fo,jO,h1,h2,h3⟩:=Tre.Bt ho
   have hlen:(Tre.bA ks).length+1=(Tre.mk k tx n m a ks).flat.length:=by rw [Tre.fP]; simp
   obtain ⟨f1,f2,f3,f4,f5,f6⟩:=rY h1
   rw [Tre.fF]
   refine Nq jO acq (fun e=>aby (f2 e).2 (f2 e).1) (Ts f3) (Ts f4) fun y hy=>?_
   obtain ⟨t,ht,rfl⟩:=List.mem_map.1 hy
   have:=Tre.Bi ht
   exact Tv N t (by omega) (h3 t ht)
end Go.Rip
namespace Go.Rip
def fU:List Tre->aQ->aQ × Int
 | [],acc=>if 2500 < acc.length then ([],5) else (acc,0)
 | t::ts,acc=>if (dW t.pr).2 ≠ 0 then ([],(dW t.pr).2) else fU ts (acc++(dW t.pr).1++[10])
def mN (t:Tre):aQ × Int:=if t.kind ≠ 1 then dW t.pr else fU t.kids []
theorem D2 {l:List Tx} (h:(dW l).2=0):(dW l).1=fw l/\l.length <= 900/\(fw l).length <= 2500:=by
 unfold dW at h ⊢
 split at h
 . cases h
 . rename_i h1
   split at h
   . cases h
   . rename_i h2
     rw [if_neg h1,if_neg h2]
     exact ⟨rfl,by omega,by omega⟩
end Go.Rip
