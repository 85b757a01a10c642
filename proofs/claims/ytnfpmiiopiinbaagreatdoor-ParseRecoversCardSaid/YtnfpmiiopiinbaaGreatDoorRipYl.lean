/- Lemmas for the proof: no conditions. -/
import Derived.Test.YtnfpmiiopiinbaaGreatDoorRipZz
import Derived.Test.YtnfpmiiopiinbaaGreatDoorRipI
import Derived.Test.YtnfpmiiopiinbaaGreatDoorRipYb
import Derived.Test.YtnfpmiiopiinbaaGreatDoorRipX
import Derived.Test.YtnfpmiiopiinbaaGreatDoorRipYi
import Derived.Test.YtnfpmiiopiinbaaGreatDoorRipYc
set_option linter.unusedVariables false
set_option linter.unusedSimpArgs false
set_option linter.loopingSimpArgs false
set_option linter.unusedSectionVars false
namespace Go.Rip
def zp (l:List Nd):List Nd:=l.map λ x=>{ x with at_:=0 }
theorem OH (a b:List Nd):zp (a++b)=zp a++zp b:=List.map_append
theorem OI {a b:List Nd} (h:zp a=zp b):a.length=b.length:=by simpa [zp] using congrArg List.length h
theorem lF {a b:List Nd} (h:zp a=zp b) (k:Int) (x:aT) (n m p q:Int):zp (node k x n m p a)=zp (node k x n m q b):=by
 have:=OI h;unfold zp at h;simp[zp,node,this,h]
theorem iy {a b c d:List Nd} (h:zp a=zp b) (k:zp c=zp d):zp (a++c)=zp (b++d):=by rw[OH,OH,h,k]
def Rl {α:Type} (S:α->α->Prop) (o n:Nat):PR α->PR α->Prop
 | .ok a j,.ok b k=>S a b/\k=o+j/\j<=n
 | .bad j,.bad k=>k=o+j/\j<=n
 | .out,_=>True
 | _,_=>False
def ZL (a b:List Nd):Prop:=zp a=zp b
structure Vw (L M:List Tk) (o:Nat):Prop where
 tk:∀ i t,L[i]?=some t->∃ u,M[o+i]?=some u/\u.k=t.k/\u.s=t.s
 stop:M[o+L.length]?=none\/dW M (o+L.length)=true
section
variable {α β:Type} {S:α->α->Prop} {S':β->β->Prop} {o n i:Nat} {L M:List Tk} {E E':Nat}
theorem Rl.bind {x y:PR α} {f g:α->Nat->PR β} (h:Rl S o n x y) (k:∀ a b j,S a b->j<=n->Rl S' o n (f a j) (g b (o+j))):Rl S' o n (x.bind f) (y.bind g):=by
 cases x with
 | out=>trivial
 | ok a j =>
   cases y<;>first|exact h.elim|skip
   obtain⟨h1,rfl,h3⟩:=h;exact k _ _ _ h1 h3
 | bad j=>cases y<;>first|exact h.elim|exact h
theorem Rl.ite {c d:Prop} [Decidable c] [Decidable d] {x y x' y':PR α} (e:c↔d) (h:c->Rl S o n x x') (k:¬ c->Rl S o n y y'):Rl S o n (if c then x else y) (if d then x' else y'):=by
 by_cases hc:c
 . rw[if_pos hc,if_pos (e.1 hc)]; exact h hc
 . rw[if_neg hc,if_neg (λ x=>hc (e.2 x))]; exact k hc
theorem Rl.ok {a b:α} {j:Nat} (h:S a b) (k:j<=n):Rl S o n (.ok a j) (.ok b (o+j)):=⟨h,rfl,k⟩
theorem Ls {w:aT} (h:bB L i w=true):∃ t,L[i]?=some t/\(t.k=3\/t.k=4)/\t.s=w:=by
 unfold bB at h;split at h
 . rename_i t ht; simp only[bV,gX,beq_iff_eq]at h; exact⟨t,ht,h.1,h.2⟩
 . cases h
theorem Lq (h:dW L i=true):∃ t,L[i]?=some t/\(t.k=3\/t.k=4)/\(t.s=ep\/t.s=fA\/t.s=ef):=by
 unfold dW at h;simp only[gX]at h;rcases h with (h|h)|h<;>obtain⟨t,h1,h2,h3⟩:=Ls h
 . exact⟨t,h1,h2,.inl h3⟩
 . exact⟨t,h1,h2,.inr (.inl h3)⟩
 . exact⟨t,h1,h2,.inr (.inr h3)⟩
variable (V:Vw L M o)
include V
theorem Vw.end_:M[o+L.length]?=none\/∃ t,M[o+L.length]?=some t/\(t.k=3\/t.k=4)/\(t.s=ep\/t.s=fA\/t.s=ef):=by
 rcases V.stop with h|h
 . exact .inl h
 . exact .inr (Lq h)
theorem Vw.yR (hi:i<L.length) (w:aT):bB M (o+i) w=bB L i w:=by
 obtain⟨t,ht⟩:∃ t,L[i]?=some t:=⟨L[i],by simp[hi]⟩;obtain⟨u,hu,h1,h2⟩:=V.tk i t ht;unfold bB;rw[ht,hu];simp only[h1,h2]
theorem Vw.wd {w:aT} (hi:i<=L.length) (hw:w≠ep/\w≠fA/\w≠ef):bB M (o+i) w=bB L i w:=by
 rcases Nat.lt_or_eq_of_le hi with h|rfl
 . exact V.yR h w
 . have e:bB L L.length w=false:=by
    cases h:bB L L.length w with
    | false=>rfl
    | true=>exact absurd (bp h) (Nat.lt_irrefl _)
   rw[e];cases h:bB M (o+L.length) w with
   | false=>rfl
   | true =>
     obtain⟨t,ht,_,hs⟩:=Ls h;rcases V.end_ with h'|⟨u,hu,_,h3⟩
     . rw[h']at ht; cases ht
     . rw[ht]at hu; cases hu;rw[hs]at h3;rcases h3 with h3|h3|h3
       . exact absurd h3 hw.1
       . exact absurd h3 hw.2.1
       . exact absurd h3 hw.2.2
theorem Vw.kd {k:Nat} (hi:i<=L.length) (hk:k=1\/k=2):nh M (o+i) k=nh L i k:=by
 rcases Nat.lt_or_eq_of_le hi with h|rfl
 . obtain⟨t,ht⟩:∃ t,L[i]?=some t:=⟨L[i],by simp[h]⟩;obtain⟨u,hu,h1,h2⟩:=V.tk i t ht;unfold nh;rw[ht,hu];simp only[h1]
 . unfold nh;rw[show L[L.length]?=none by simp];rcases V.end_ with h'|⟨u,hu,h2,_⟩
   . rw[h']
   . rw[hu];have:u.k≠k:=by omega
     simp[this]
theorem Vw.Y3 {w:aT} (hi:i<L.length):Rl (λ _ _=>True) o L.length (bq L w i) (bq M w (o+i)):=by
 unfold bq;exact .ite (by rw[V.yR hi]) (λ _=>⟨trivial,rfl,hi⟩) λ _=>⟨rfl,by omega⟩
theorem Vw.need {w:aT} (hi:i<=L.length) (hw:w≠ep/\w≠fA/\w≠ef):Rl (λ _ _=>True) o L.length (bq L w i) (bq M w (o+i)):=by
 unfold bq;exact .ite (by rw[V.wd hi hw]) (λ c=>⟨trivial,rfl,bp c⟩) λ _=>⟨rfl,hi⟩
theorem Vw.name (hi:i<=L.length):Rl (λ a b=>a=b) o L.length (eK L i) (eK M (o+i)):=by
 unfold eK;rcases Nat.lt_or_eq_of_le hi with h|rfl
 . obtain⟨t,ht⟩:∃ t,L[i]?=some t:=⟨L[i],by simp[h]⟩;obtain⟨u,hu,h1,h2⟩:=V.tk i t ht;rw[ht,hu];exact .ite (by rw[h1]) (λ _=>⟨h2.symm,rfl,h⟩) λ _=>⟨rfl,hi⟩
 . rw[show L[L.length]?=none by simp];rcases V.end_ with h'|⟨u,hu,h2,_⟩
   . rw[h']; exact⟨rfl,hi⟩
   . rw[hu];show Rl _ _ _ _ (if u.k=1 then _ else _)
     rw[if_neg (by omega)]; exact⟨rfl,hi⟩
theorem Vw.zf (hi:i<=L.length):Rl (λ a b=>a=b) o L.length (fW L i) (fW M (o+i)):=by
 unfold fW;rcases Nat.lt_or_eq_of_le hi with h|rfl
 . obtain⟨t,ht⟩:∃ t,L[i]?=some t:=⟨L[i],by simp[h]⟩;obtain⟨u,hu,h1,h2⟩:=V.tk i t ht;rw[ht,hu];exact .ite (by rw[h1]) (λ _=>⟨by rw[h2],rfl,h⟩) λ _=>⟨rfl,hi⟩
 . rw[show L[L.length]?=none by simp];rcases V.end_ with h'|⟨u,hu,h2,_⟩
   . rw[h']; exact⟨rfl,hi⟩
   . rw[hu];show Rl _ _ _ _ (if u.k=2 then _ else _)
     rw[if_neg (by omega)]; exact⟨rfl,hi⟩
theorem Vw.more {one two:Nat->PR (List Nd)} (h1:∀ i,i<=L.length->Rl ZL o L.length (one i) (two (o+i))):∀ (f g:Nat) (acc ja:List Nd) (i:Nat),f<=g->i<=L.length->ZL acc ja->Rl ZL o L.length (j6 L one f acc i) (j6 M two g ja (o+i))
 | 0,_,acc,ja,i,hf,hi,ha=>trivial
 | _+1,0,acc,ja,i,hf,hi,ha=>by omega
 | f+1,g+1,acc,ja,i,hf,hi,ha=>by
   unfold j6;refine .ite (by rw[V.wd hi (by decide)]) (λ c=>?_) λ _=>.ok ha hi;have:=bp c;exact (h1 (i+1) this).bind λ b b' j h2 h3=>Vw.more h1 f g _ _ j (by omega) h3 (iy ha h2)
theorem Vw.list {one two:Nat->PR (List Nd)} (h1:∀ i,i<=L.length->Rl ZL o L.length (one i) (two (o+i))) {f g:Nat} (hf:f<=g) (hi:i<=L.length):Rl ZL o L.length (gl L one f i) (gl M two g (o+i)):=by
 unfold gl;exact (h1 i hi).bind λ a b j h2 h3=>V.more h1 f g _ _ j hf h3 h2
theorem Vw.base (hi:i<=L.length):Rl ZL o L.length (iC L E i) (iC M E' (o+i)):=by
 unfold iC;refine .ite (by rw[V.wd hi (by decide)]) (λ c=>.ok (lF rfl _ _ _ _ _ _) (bp c)) λ _=>.ite (by rw[V.wd hi (by decide)]) (λ c=>.ok (lF rfl _ _ _ _ _ _) (bp c)) λ _=>.ite (by rw[V.wd hi (by decide)]) (λ c=>?_) λ _=>?_
 . exact (V.zf (bp c)).bind λ a b j h2 h3=>by subst h2; exact .ok (lF rfl _ _ _ _ _ _) h3
 . refine (V.need hi (by decide)).bind λ _ _ j _ h3=>?_;exact (V.zf h3).bind λ a b j h2 h3=>by subst h2; exact .ok (lF rfl _ _ _ _ _ _) h3
theorem Vw.kind {f g:Nat} (hf:f<=g) (hi:i<=L.length):Rl ZL o L.length (mI L E f i) (mI M E' g (o+i)):=by
 unfold mI;refine .ite (by rw[V.wd hi (by decide)]) (λ c=>?_) λ _=>V.base hi;refine (V.list (λ i h=>V.base h) hf (bp c)).bind λ a a' j h1 h2=>(V.need h2 (by decide)).bind λ _ _ j _ h3=>(V.need h3 (by decide)).bind λ _ _ j _ h4=>(V.base h4).bind λ b b' j h5 h6=>?_;exact .ok (lF (iy h1 h5) _ _ _ _ _ _) h6
theorem Vw.param {f g:Nat} (hf:f<=g) (hi:i<=L.length):Rl ZL o L.length (iw L E f i) (iw M E' g (o+i)):=by
 unfold iw;exact (V.name hi).bind λ x y j h1 h2=>(V.need h2 (by decide)).bind λ _ _ j _ h3=>(V.kind hf h3).bind λ a a' j h4 h5=>by
  subst h1; exact .ok (lF h4 _ _ _ _ _ _) h5
theorem Vw.QZ (hi:i<=L.length):Rl ZL o L.length (lS L E i) (lS M E' (o+i)):=by
 unfold lS;exact (V.name hi).bind λ x y j h1 h2=>by subst h1; exact .ok (lF rfl _ _ _ _ _ _) h2
theorem Vw.op (lev:Nat) (hi:i<=L.length):oM M lev (o+i)=oM L lev i:=by
 unfold oM;rw[V.wd hi (w:=Gc) (by decide),V.wd hi (w:=AZ) (by decide),V.wd hi (w:=pM) (by decide),V.wd hi (w:=ye) (by decide),V.wd hi (w:=yc) (by decide),V.wd hi (w:=yd) (by decide),V.wd hi (w:=yb) (by decide),V.wd hi (w:=F5) (by decide)]
theorem Vw.seq1 (hi:i<=L.length):(bB L i j9=true/\i+1<L.length/\dW L (i+1)=false)↔(bB M (o+i) j9=true/\o+i+1<M.length/\dW M (o+i+1)=false):=by
 rw[V.wd hi (by decide)];refine and_congr_right λ c=>?_;have hl:=bp c;rcases Nat.lt_or_eq_of_le (show i+1<=L.length from hl) with h|h
 . have e:dW M (o+i+1)=dW L (i+1):=by
    unfold dW;rw[show o+i+1=o+(i+1) from rfl,V.yR h,V.yR h,V.yR h]
   obtain⟨t,ht⟩:∃ t,L[i+1]?=some t:=⟨L[i+1],by simp[h]⟩;obtain⟨u,hu,_⟩:=V.tk (i+1) t ht;have:=(dp.1 hu).1;rw[e];constructor
   . rintro⟨_,b⟩; exact⟨by omega,b⟩
   . rintro⟨_,b⟩; exact⟨h,b⟩
 . constructor
   . rintro⟨a,_⟩; omega
   . rintro⟨a,b⟩;rcases V.stop with k|k
     . rw[<- h]at k;have:=List.getElem?_eq_none_iff.1 k;omega
     . rw[<- h]at k;rw[show o+(i+1)=o+i+1 from rfl,b]at k;cases k
theorem Vw.aa9 (hi:i<=L.length):(nh L i 1=true/\bB L (i+1) cJ=true)↔(nh M (o+i) 1=true/\bB M (o+i+1) cJ=true):=by
 rw[V.kd hi (.inl rfl)];refine and_congr_right λ c=>?_;rw[show o+i+1=o+(i+1) from rfl,V.wd (HJ c) (by decide)]
theorem Vw.sN:∀ f g:Nat,f<=g ->
 (∀ i,i<=L.length->Rl ZL o L.length (fX L E f i) (fX M E' g (o+i))) /\
 (∀ i p q acc ja many,i<=L.length->ZL acc ja->Rl ZL o L.length (lQ L E f p acc many i) (lQ M E' g q ja many (o+i))) /\
 (∀ i,i<=L.length->Rl ZL o L.length (bU L E f i) (bU M E' g (o+i))) /\
 (∀ i lev,i<=L.length->Rl ZL o L.length (eT L E f lev i) (eT M E' g lev (o+i))) /\
 (∀ i lev acc ja,i<=L.length->ZL acc ja->Rl ZL o L.length (jS L E f lev acc i) (jS M E' g lev ja (o+i))) /\
 (∀ i,i<=L.length->Rl ZL o L.length (js L E f i) (js M E' g (o+i))) /\
 (∀ i acc ja,i<=L.length->ZL acc ja->Rl ZL o L.length (hY L E f acc i) (hY M E' g ja (o+i))) /\
 (∀ i,i<=L.length->Rl ZL o L.length (iz L E f i) (iz M E' g (o+i))):=by
 intro f
 induction f with
 | zero=>intro g _; refine⟨?_,?_,?_,?_,?_,?_,?_,?_⟩<;>intros<;>simp only[fX,lQ,bU,eT,jS,js,hY,iz,Rl]
 | succ f ih =>
   intro g hg;obtain⟨g,rfl⟩:∃ g',g=g'+1:=⟨g-1,by omega⟩;obtain⟨iT,iS,iF,iO,iP,iA,iG,iR⟩:=ih g (by omega);have wn:∀ {x y:aT} {kd n m:Int} {p q:Int} {a b:List Nd},x=y->ZL a b->ZL (node kd x n m p a) (node kd y n m q b):=λ e h=>by subst e; exact lF h _ _ _ _ _ _
   have dc:∀ {i:Nat} {w:aT},i<=L.length->(w≠ep/\w≠fA/\w≠ef)->(bB L i w=true↔bB M (o+i) w=true):=λ h1 h2=>by rw[V.wd h1 h2]
   refine⟨?_,?_,?_,?_,?_,?_,?_,?_⟩
   . intro i hi;rw[fX,fX];exact (iF i hi).bind λ a b j h1 h2=>iS j _ _ _ _ _ h2 h1
   . intro i p q acc ja many hi ha;rw[lQ,lQ];refine .ite (V.seq1 hi) (λ c=>?_) λ _=>.ok ?_ hi
     . exact (iF (i+1) (bp c.1)).bind λ a b j h1 h2=>iS j _ _ _ _ _ h2 (iy ha h1)
     . split
       . exact ha
       . exact lF ha _ _ _ _ _ _
   . intro i hi;rw[bU,bU];refine .ite (dc hi (by decide)) (λ c=>?_) λ _=>.ite (dc hi (by decide)) (λ c=>?_) λ _=>.ite (dc hi (by decide)) (λ c=>?_) λ _=>.ite (dc hi (by decide)) (λ c=>?_) λ _=>.ite (dc hi (by decide)) (λ c=>?_) λ _=>.ite (dc hi (by decide)) (λ c=>?_) λ _=>.ite (V.aa9 hi) (λ c=>?_) λ _=>iO i 2 hi
     . exact (iF (i+1) (bp c)).bind λ a a' j h1 h2=>(V.need h2 (by decide)).bind λ _ _ j _ h3=>(iF j h3).bind λ b b' j h4 h5=>(V.need h5 (by decide)).bind λ _ _ j _ h6=>(iF j h6).bind λ d d' j h7 h8=>.ok (wn rfl (iy (iy h1 h4) h7)) h8
     . exact (iF (i+1) (bp c)).bind λ a a' j h1 h2=>(V.need h2 (by decide)).bind λ _ _ j _ h3=>(iF j h3).bind λ b b' j h4 h5=>.ok (wn rfl (iy h1 h4)) h5
     . exact (V.name (bp c)).bind λ x y j h1 h2=>(V.need h2 (by decide)).bind λ _ _ j _ h3=>(V.zf h3).bind λ n n' j h4 h5=>(V.need h5 (by decide)).bind λ _ _ j _ h6=>(V.zf h6).bind λ m m' j h7 h8=>(V.need h8 (by decide)).bind λ _ _ j _ h9=>(iF j h9).bind λ b b' j jy nC=>by subst h1 h4 h7; exact .ok (wn rfl jy) nC
     . exact (V.name (bp c)).bind λ x y j h1 h2=>(V.need h2 (by decide)).bind λ _ _ j _ h3=>(iF j h3).bind λ b b' j h4 h5=>(V.need h5 (by decide)).bind λ _ _ j _ h6=>(iF j h6).bind λ d d' j h7 h8=>.ok (wn h1 (iy h4 h7)) h8
     . exact (iF (i+1) (bp c)).bind λ a a' j h1 h2=>(V.need h2 (by decide)).bind λ _ _ j _ h3=>(iF j h3).bind λ b b' j h4 h5=>.ok (wn rfl (iy h1 h4)) h5
     . exact (V.name (bp c)).bind λ x y j h1 h2=>(V.need h2 (by decide)).bind λ _ _ j _ h3=>(V.zf h3).bind λ n n' j h4 h5=>(V.need h5 (by decide)).bind λ _ _ j _ h6=>(iF j h6).bind λ b b' j jy nC=>by subst h1 h4; exact .ok (wn rfl jy) nC
     . exact (V.name hi).bind λ x y j h1 h2=>(V.need h2 (by decide)).bind λ _ _ j _ h3=>(iF j h3).bind λ b b' j h4 h5=>.ok (wn h1 h4) h5
   . intro i lev hi;rw[eT,eT];refine .ite Iff.rfl (λ _=>iA i hi) λ _=>.ite Iff.rfl (λ _=>.ite (dc hi (by decide)) (λ c=>?_) λ _=>iO i 5 hi) λ _=>?_
     . exact (iO (i+1) 4 (bp c)).bind λ a b j h1 h2=>.ok (wn rfl h1) h2
     . exact (iO i (lev+1) hi).bind λ a b j h1 h2=>iP j lev _ _ h2 h1
   . intro i lev acc ja hi ha;rw[jS,jS,V.op lev hi];cases hk:oM L lev i with
     | none=>exact .ok ha hi
     | some kind =>
       have hl:i+1<=L.length:=BE hk;refine .ite Iff.rfl (λ _=>?_) λ _=>?_
       . exact (V.zf hl).bind λ n n' j h1 h2=>by subst h1; exact iP j lev _ _ h2 (wn rfl ha)
       . exact (iO (i+1) (lev+1) hl).bind λ b b' j h1 h2=>.ite Iff.rfl (λ _=>.ok (wn rfl (iy ha h1)) h2) λ _=>iP j lev _ _ h2 (wn rfl (iy ha h1))
   . intro i hi;rw[js,js];refine .ite (dc hi (by decide)) (λ c=>.ok (wn rfl rfl) (bp c)) λ _=>.ite (dc hi (by decide)) (λ c=>.ok (wn rfl rfl) (bp c)) λ _=>.ite (dc hi (by decide)) (λ c=>.ok (wn rfl rfl) (bp c)) λ _=>.ite (dc hi (by decide)) (λ c=>.ok (wn rfl rfl) (bp c)) λ _=>.ite (dc hi (by decide)) (λ c=>?_) λ _=>.ite (dc hi (by decide)) (λ c=>?_) λ _=>.ite (dc hi (by decide)) (λ c=>?_) λ _=>.ite (by rw[V.kd hi (.inr rfl)]) (λ c=>?_) λ _=>?_
     . exact (V.name (bp c)).bind λ x y j h1 h2=>.ok (wn h1 rfl) h2
     . exact (V.name (bp c)).bind λ x y j h1 h2=>.ok (wn h1 rfl) h2
     . exact (iT (i+1) (bp c)).bind λ a b j h1 h2=>(V.need h2 (by decide)).bind λ _ _ j _ h3=>.ok h1 h3
     . exact (V.zf hi).bind λ n n' j h1 h2=>by subst h1; exact .ok (wn rfl rfl) h2
     . exact (V.name hi).bind λ x y j h1 h2=>.ite (dc h2 (by decide)) (λ c=>(iR (j+1) (bp c)).bind λ a b j h3 h4=>(iG j _ _ h4 h3).bind λ a b j h5 h6=>(V.need h6 (by decide)).bind λ _ _ j _ h7=>.ok (wn h1 h5) h7) λ _=>.ok (wn h1 rfl) h2
   . intro i acc ja hi ha;rw[hY,hY];refine .ite (dc hi (by decide)) (λ c=>?_) λ _=>.ok ha hi;exact (iR (i+1) (bp c)).bind λ a b j h1 h2=>iG j _ _ h2 (iy ha h1)
   . intro i hi;rw[iz,iz];refine .ite (dc hi (by decide)) (λ c=>?_) λ _=>.ite (dc hi (by decide)) (λ c=>?_) λ _=>iT i hi
     . refine (V.need (bp c) (by decide)).bind λ _ _ j _ h1=>?_;have hls:Rl ZL o L.length (gl L (lS L E) (L.length+1) j) (gl M (lS M E') (M.length+1) (o+j)):=by
        have h0:=bp c;obtain⟨t,ht⟩:∃ t,L[L.length-1]?=some t:=⟨L[L.length-1],by simp[show L.length-1<L.length by omega]⟩;obtain⟨u,hu,_⟩:=V.tk _ t ht;have:=(dp.1 hu).1;exact V.list (λ i h=>V.QZ h) (by omega) h1
       exact hls.bind λ a b j h2 h3=>(V.need h3 (by decide)).bind λ _ _ j _ h4=>(iF j h4).bind λ d d' j h5 h6=>.ok (wn rfl (iy h2 h5)) h6
     . exact (V.need (bp c) (by decide)).bind λ _ _ j _ h1=>(iF j h1).bind λ a a' j h2 h3=>(V.need h3 (by decide)).bind λ _ _ j _ h4=>(V.need h4 (by decide)).bind λ _ _ j _ h5=>(V.QZ h5).bind λ b b' j h6 h7=>(V.need h7 (by decide)).bind λ _ _ j _ h8=>(iF j h8).bind λ d d' j h9 jy=>(V.need jy (by decide)).bind λ _ _ j _ nC=>.ok (wn rfl (iy (iy h2 h6) h9)) nC
theorem Vw.item {f g:Nat} (hf:f<=g) (hi:i<L.length):Rl ZL o L.length (eJ L E f i) (eJ M E' g (o+i)):=by
 have iv:i<=L.length:=by omega
 have wn:∀ {x y:aT} {kd n m:Int} {p q:Int} {a b:List Nd},x=y->ZL a b->ZL (node kd x n m p a) (node kd y n m q b):=λ e h=>by subst e; exact lF h _ _ _ _ _ _
 unfold eJ;refine .ite (by rw[V.yR hi]) (λ c=>?_) λ _=>?_
 . exact (V.name (show i+1<=L.length from hi)).bind λ x y j h1 h2=>(V.need h2 (by decide)).bind λ _ _ j _ h3=>(V.kind hf h3).bind λ a b j h4 h5=>(V.need h5 (by decide)).bind λ _ _ j _ h6=>.ok (wn h1 h4) h6
 . have h0:Rl (λ a b:Int=>a=b) o L.length (if bB L i fA=true then PR.ok 3 (i+1) else (bq L ef i).bind λ _ j=>.ok 4 j) (if bB M (o+i) fA=true then PR.ok 3 (o+i+1) else (bq M ef (o+i)).bind λ _ j=>.ok 4 j) :=
    .ite (by rw[V.yR hi]) (λ _=>.ok (j:=i+1) rfl hi) λ _=>(V.Y3 hi).bind λ _ _ j _ h=>.ok rfl h
   refine h0.bind λ k k' j e h=>?_;subst e;refine (V.name h).bind λ x y j h1 h2=>(V.need h2 (by decide)).bind λ _ _ j _ h3=>?_;have h4:Rl ZL o L.length (if bB L j gE=true then PR.ok [] j else gl L (iw L E f) f j) (if bB M (o+j) gE=true then PR.ok [] (o+j) else gl M (iw M E' g) g (o+j)) :=
    .ite (by rw[V.wd h3 (by decide)]) (λ _=>.ok rfl h3) λ _=>V.list (λ i h=>V.param hf h) hf h3
   exact h4.bind λ a a' j h5 h6=>(V.need h6 (by decide)).bind λ _ _ j _ h7=>(V.need h7 (by decide)).bind λ _ _ j _ h8=>(V.base h8).bind λ b b' j h9 jy=>(V.need jy (by decide)).bind λ _ _ j _ nC=>((V.sN f g hf).1 j nC).bind λ c c' j qW Q4=>(V.need Q4 (by decide)).bind λ _ _ j _ Eh=>.ok (wn h1 (iy (iy h5 h9) qW)) Eh
end
end Go.Rip
namespace Go.Rip
def lu (o:Nat) (l:List Tk):List Tk:=l.map λ t=>⟨t.k,t.s,o+t.at_⟩
theorem zA {p:UInt8->Bool} {x:UInt8} (h:p x=false):∀ (s t:aT),(s++x::t).takeWhile p=s.takeWhile p
 | [],t=>by simp[h]
 | c::s,t=>by
   rw[gY,mj,mj,zA h s t]
theorem Mc:∀ (x s t:aT),(∀ c∈x,c≠10)->x.isPrefixOf (s++10::t)=x.isPrefixOf s
 | [],s,t,_=>by simp
 | c::x,[],t,h=>by
   have:=h c (by simp);simp[List.isPrefixOf,this]
 | c::x,d::s,t,h=>by
   simp only[gY,List.isPrefixOf,Mc x s t (λ c hc=>h c (by simp[hc]))]
theorem find_eq {α:Type} {p q:α->Bool}:∀ {l:List α},(∀ x∈l,p x=q x)->l.find? p=l.find? q
 | [],_=>rfl
 | x::l,h=>by
   rw[List.find?_cons,List.find?_cons,h x (by simp),find_eq λ y hy=>h y (by simp[hy])]
theorem W3:∀ x∈rL,∀ c∈x,c≠10:=by decide
theorem TE (s t:aT):fg (s++10::t)=fg s:=by
 unfold fg;rw[zA (by decide),find_eq λ x hx=>Mc x s t (W3 x hx)]
def Edge (T:aT):Prop:=T=[]\/∃ T',T=10::T'
theorem Edge.tok {T:aT} (h:Edge T) (s:aT):fg (s++T)=fg s:=by
 rcases h with rfl|⟨T',rfl⟩
 . rw[jn]
 . exact TE s T'
theorem Edge.tw {T:aT} (h:Edge T) (s:aT):((s++T).takeWhile λ c=>c.toNat≠10)=s.takeWhile λ c=>c.toNat≠10:=by
 rcases h with rfl|⟨T',rfl⟩
 . rw[jn]
 . exact zA (by decide) s T'
theorem Wz {s P R T:aT} (hs:s=P++R++T) (hT:Edge T):∀ (f p:Nat) (l0 X:List Tk),dE f R p l0=.ok X->p<=R.length->R.length-p<=f ->
 ∃ Y,X=l0++Y/\∀ (g:Nat) (l L:List Tk),dE g s (P.length+p) l=.ok L->s.length-(P.length+p)<=g->∃ g',dE g' s (P.length+R.length) (l++lu P.length Y)=.ok L/\s.length-(P.length+R.length)<=g':=by
 have stop:∀ (p:Nat),p=R.length->∀ (g:Nat) (l L:List Tk),dE g s (P.length+p) l=.ok L->s.length-(P.length+p)<=g->∃ g',dE g' s (P.length+R.length) (l++lu P.length [])=.ok L/\s.length-(P.length+R.length)<=g':=by
  rintro p rfl g l L h hg;exact⟨g,by simpa [lu] using h,hg⟩
 intro f
 induction f with
 | zero =>
   intro p l0 X h hp hf;simp only[dE,uf.ok.injEq]at h;exact⟨[],by simp[h],stop p (by omega)⟩
 | succ f ih =>
   intro p l0 X h hp hf;rw[dE]at h;cases hd:R.drop p with
   | nil =>
     rw[hd]at h;simp only[uf.ok.injEq]at h;have:R.length<=p:=List.drop_eq_nil_iff.1 hd;exact⟨[],by simp[h],stop p (by omega)⟩
   | cons c r =>
     rw[hd]at h;have hlen:R.length-p=r.length+1:=by simpa using congrArg List.length hd
     have Wf:s.drop (P.length+p)=(c::r)++T:=by
      rw[hs,<- List.drop_drop,nu,List.drop_left,List.drop_append_of_le_length hp,hd]
     have rk:s.length=P.length+R.length+T.length:=by rw[hs]; simp[Nat.add_assoc]
     simp only at h;split at h
     . rename_i hc;obtain⟨Y,h1,h2⟩:=ih (p+1) l0 X h (by omega) (by omega);refine⟨Y,h1,λ g l L hl hg=>?_⟩;obtain⟨g,rfl⟩:∃ g',g=g'+1:=⟨g-1,by omega⟩;rw[dE,Wf]at hl;simp only[gY,if_pos hc]at hl;exact h2 g l L hl (by omega)
     . rename_i hc;split at h
       . rename_i uv;have hw:0<((c::r).takeWhile λ c=>c.toNat≠10).length:=by
          rw[mj,if_pos (by simp[uv])]; simp
         have HE:((c::r).takeWhile λ c=>c.toNat≠10).length<=(c::r).length:=(Fw _).length_le;simp only[lM]at HE;obtain⟨Y,h1,h2⟩:=ih _ l0 X h (by omega) (by omega);refine⟨Y,h1,λ g l L hl hg=>?_⟩;obtain⟨g,rfl⟩:∃ g',g=g'+1:=⟨g-1,by omega⟩;have RB:=hT.tw (c::r);rw[dE,Wf]at hl;rw[gY]at RB hl;simp only[if_neg hc,if_pos uv]at hl;rw[RB,Nat.add_assoc]at hl;exact h2 g l L hl (by omega)
       . rename_i uv;have og:=hT.tok (c::r);cases h1:fg (c::r) with
         | mk e kt =>
         obtain⟨k,t⟩:=kt;rw[h1]at h og;simp only at h;split at h
         . cases h
         . rename_i he;split at h
           . cases h
           . have he:e=0:=Classical.byContradiction he;subst he;obtain⟨o1,o2⟩:=x8 h1;have ht0:0<t.length:=List.length_pos_iff.2 o1.1;have EJ:=o2.length_le;simp only[lM]at EJ;obtain⟨Y,h1,h2⟩:=ih _ _ X h (by omega) (by omega);refine⟨⟨k,t,p⟩::Y,by simp[h1],λ g l L hl hg=>?_⟩;obtain⟨g,rfl⟩:∃ g',g=g'+1:=⟨g-1,by omega⟩;rw[dE,Wf]at hl;rw[gY]at og hl;simp only[if_neg hc,if_neg uv,og]at hl;split at hl
             . rename_i hh; exact absurd rfl hh
             . split at hl
               . cases hl
               . obtain⟨g',k1,k2⟩:=h2 g _ L (by rw[<- Nat.add_assoc]; exact hl) (by omega);refine⟨g',?_,k2⟩;simpa [lu] using k1
theorem EZ {s:aT} {L:List Tk} (h:eA s=.ok L):dE s.length s 0 []=.ok L:=by
 unfold eA at h;cases hc:qS s with
 | mk p e =>
   rw[hc]at h;simp only at h;split at h
   . cases h
   . exact h
theorem zc {s P R T:aT} {X L l:List Tk} {g:Nat} (hs:s=P++R++T) (hT:Edge T) (h:eA R=.ok X) (hl:dE g s P.length l=.ok L) (hg:s.length-P.length<=g):∃ g',dE g' s (P.length+R.length) (l++lu P.length X)=.ok L/\s.length-(P.length+R.length)<=g':=by
 obtain⟨Y,rfl,h2⟩:=Wz hs hT R.length 0 [] X (EZ h) (Nat.zero_le _) (by omega);exact h2 g l L hl (by simpa using hg)
theorem LH {s:aT} {l L:List Tk} {p g:Nat} {t:aT} (hd:s.drop p=10::t) (h:dE g s p l=.ok L) (hg:s.length-p<=g):∃ g',dE g' s (p+1) l=.ok L/\s.length-(p+1)<=g':=by
 have hlen:s.length-p=t.length+1:=by simpa using congrArg List.length hd
 obtain⟨g,rfl⟩:∃ g',g=g'+1:=⟨g-1,by omega⟩;rw[dE,hd]at h;simp only[show (10:UInt8).toNat=32\/(10:UInt8).toNat=10 from .inr rfl,if_true]at h;exact⟨g,h,by omega⟩
theorem PD {a k b:aT} {A B X L:List Tk} (h1:eA a=.ok A) (h2:eA k=.ok X) (h3:eA b=.ok B) (h:eA (a++10::(k++10::b))=.ok L) :
 L=A++lu (a.length+1) X++lu (a.length+1+k.length+1) B:=by
 have hz:lu 0 A=A:=by unfold lu; simp
 generalize hs:a++10::(k++10::b)=s at h;have hF:=EZ h;obtain⟨g1,q1,r1⟩:=zc (s:=s) (P:=[]) (R:=a) (T:=10::(k++10::b)) (by simp[hs]) (.inr ⟨_,rfl⟩) h1 hF (by simp);simp only[sU,cq,iK,hz]at q1 r1;obtain⟨g2,q2,r2⟩:=LH (t:=k++10::b) (by rw[<- hs,List.drop_left]) q1 r1;obtain⟨g3,q3,r3⟩:=zc (s:=s) (P:=a++[10]) (R:=k) (T:=10::b) (by simp[<- hs]) (.inr ⟨_,rfl⟩) h2 (by simpa using q2) (by simpa using r2);simp only[eG,List.length_singleton]at q3 r3;obtain⟨g4,q4,r4⟩:=LH (t:=b) (by rw[<- hs,show a++10::(k++10::b)=(a++10::k)++10::b by simp,show a.length+1+k.length=(a++10::k).length by simp; omega,List.drop_left]) q3 r3;obtain⟨g5,q5,r5⟩:=zc (s:=s) (P:=a++10::(k++[10])) (R:=b) (T:=[]) (by simp[<- hs]) (.inl rfl) h3 (by simpa [Nat.add_assoc,Nat.add_comm,Nat.add_left_comm] using q4) (by simpa [Nat.add_assoc,Nat.add_comm,Nat.add_left_comm] using r4);have uy:s.drop ((a++10::(k++[10])).length+b.length)=[]:=by
  rw[List.drop_eq_nil_iff,<- hs]; simp; omega
 have:∀ {g p l},s.drop p=[]->dE g s p l=.ok L->l=L:=by
  intro g p l hd h;cases g with
  | zero=>simpa [dE] using h
  | succ g=>rw[dE,hd]at h; simpa using h
 have:=this uy q5;rw[<- this];simp[Nat.add_assoc,Nat.add_comm,Nat.add_left_comm]
end Go.Rip
namespace Go.Rip
section
variable {L M:List Tk} {E E' o:Nat}
theorem zw:∀ (f p:Nat),p<=gQ L f p
 | 0,p=>cN _
 | f+1,p=>by
   rw[gQ];split
   . exact Nat.le_of_succ_le (zw f (p+1))
   . exact cN _
theorem zx:∀ (f p:Nat),p<=L.length->gQ L f p<=L.length
 | 0,p,h=>h
 | f+1,p,h=>by
   rw[gQ];split
   . rename_i c; exact zx f (p+1) c.1
   . exact h
theorem Ig {q:Nat} (hq:q=L.length\/dW L q=true) (hl:q<=L.length):∀ (f p:Nat),p<=q->(∀ r,p<=r->r<q->dW L r=false)->L.length-p<=f->gQ L f p=q
 | 0,p,h,hr,hf=>by show p=q; omega
 | f+1,p,h,hr,hf=>by
   rw[gQ];rcases Nat.lt_or_eq_of_le h with h|rfl
   . rw[if_pos ⟨by omega,hr p (cN _) h⟩];exact Ig hq hl f (p+1) h (λ r h1 h2=>hr r (by omega) h2) (by omega)
   . rw[if_neg];rintro⟨h1,h2⟩;rcases hq with h3|h3
     . omega
     . rw[h2]at h3; cases h3
theorem sx:∀ (f g:Nat) (acc:List Nd) (fl:List Int) (i:Nat),i<=L.length->L.length-i<f->L.length-i<g->lP L E f acc fl i=lP L E g acc fl i
 | 0,_,acc,fl,i,hi,hf,hg=>by omega
 | _,0,acc,fl,i,hi,hf,hg=>by omega
 | f+1,g+1,acc,fl,i,hi,hf,hg=>by
   rw[lP,lP]
   by_cases h:i<L.length
   . rw[if_pos h,if_pos h];have hg:=kW (E:=E) (Nat.le_of_lt h);cases hx:eJ L E (fuel L) i with
     | ok a j =>
       rw[hx]at hg;have h1:=hg.1;exact sx f g _ _ j hg.2 (by omega) (by omega)
     | bad j =>
       rw[hx]at hg;have h1:=hg.2;have h2:=zw (L:=L) L.length (max j (i+1));have h3:=zx (L:=L) L.length (max j (i+1)) (by omega);exact sx f g _ _ _ h3 (by omega) (by omega)
     | out=>rfl
   . rw[if_neg h,if_neg h]
def mq (L:List Tk) (E:Nat) (acc:List Nd) (fl:List Int) (i:Nat):List Nd×List Int:=lP L E (L.length+1) acc fl i
theorem Ic {acc:List Nd} {fl:List Int} {i:Nat} (h:L.length<=i):mq L E acc fl i=(acc,fl):=by
 unfold mq; rw[lP,if_neg (by omega)]
theorem AG {acc a:List Nd} {fl:List Int} {i j:Nat} (h:i<L.length) (hx:eJ L E (fuel L) i=.ok a j):mq L E acc fl i=mq L E (acc++a) fl j:=by
 have hg:=kW (E:=E) (Nat.le_of_lt h);rw[hx]at hg;have h1:=hg.1;have h2:=hg.2;unfold mq;rw[lP,if_pos h,hx];exact sx _ _ _ _ _ h2 (by omega) (by omega)
theorem BL {acc:List Nd} {fl:List Int} {i j:Nat} (h:i<L.length) (hx:eJ L E (fuel L) i=.bad j):mq L E acc fl i=mq L E acc (fl++[cU L E j]) (gQ L L.length (max j (i+1))):=by
 have hg:=kW (E:=E) (Nat.le_of_lt h);rw[hx]at hg;have h1:=hg.2;have h2:=zw (L:=L) L.length (max j (i+1));have h3:=zx (L:=L) L.length (max j (i+1)) (by omega);unfold mq;rw[lP,if_pos h,hx];exact sx _ _ _ _ _ h3 (by omega) (by omega)
theorem zn:∀ (f:Nat) (acc:List Nd) (fl:List Int) (i:Nat),∃ r,(lP L E f acc fl i).2=fl++r
 | 0,acc,fl,i=>⟨[],by simp[lP]⟩
 | f+1,acc,fl,i=>by
   rw[lP];split
   . split
     . exact zn f _ _ _
     . obtain⟨r,h⟩:=zn f acc (fl++[cU L E _]) (gQ L L.length _);exact⟨_,by rw[h,nu]⟩
     . exact⟨[],by simp⟩
   . exact⟨[],by simp⟩
theorem wG:∀ (f:Nat) (acc:List Nd) (i:Nat) {res:List Nd} {k:Nat},gT L E f acc i=.ok res k->∀ fl,mq L E acc fl i=(res,fl)
 | 0,acc,i,res,k,h,fl=>by cases h
 | f+1,acc,i,res,k,h,fl=>by
   rw[gT]at h;split at h
   . rename_i hi;obtain⟨a,j,h1,h⟩:=PR.al h;rw[AG hi h1];exact wG f _ _ h fl
   . obtain⟨rfl,rfl⟩:=PR.bg h;exact Ic (by omega)
theorem Cz:∀ (f:Nat) (acc:List Nd) (i:Nat) {k:Nat},gT L E f acc i=.bad k->∀ fl,(mq L E acc fl i).2≠[]
 | 0,acc,i,k,h,fl=>by cases h
 | f+1,acc,i,k,h,fl=>by
   rw[gT]at h;split at h
   . rename_i hi;cases h1:eJ L E (fuel L) i with
     | ok a j =>
       rw[h1]at h;rw[AG hi h1];exact Cz f _ _ h fl
     | bad j =>
       rw[BL hi h1];obtain⟨r,h2⟩:=zn (L:=L) (E:=E) (L.length+1) acc (fl++[cU L E j]) (gQ L L.length (max j (i+1)));unfold mq; rw[h2]; simp
     | out=>rw[h1]at h; cases h
   . cases h
theorem HK {f i j:Nat} {a:List Nd} (h:eJ L E f i=.ok a j):dW L i=true:=by
 unfold eJ at h;unfold dW;split at h
 . rename_i c; simp[c]
 . obtain⟨k,j',h1,h⟩:=PR.al h;split at h1
   . rename_i c; simp[c]
   . obtain⟨_,_,h2,_⟩:=PR.al h1;unfold bq at h2;split at h2
     . rename_i c; simp[c]
     . cases h2
def vA (t:Tre):aT×Nat:=(t.text,t.flat.length)
def vO (ts:List Tre):Prop:=Tre.pY ts=true/\∀ t∈ts,om t.kind=true
theorem vO.cons {t:Tre} {ts:List Tre} (h1:t.ok=true) (h2:om t.kind=true) (h:vO ts):vO (t::ts):=⟨by simp[h1,h.1],by simpa [h2] using h.2⟩
theorem vO.app {ts us:List Tre} (h:vO ts) (k:vO us):vO (ts++us):=⟨by rw[Tre.mK,h.1,k.1]; rfl,λ t ht=>(fN.1 ht).elim (h.2 t) (k.2 t)⟩
theorem Zm {t t':Tre} (h:zp t.flat=zp t'.flat):vA t=vA t':=by
 have hl:=OI h;obtain⟨x,r,h1,_,_,h2,_⟩:=Tre.kK t;obtain⟨y,q,k1,_,_,k2,_⟩:=Tre.kK t';rw[h1,k1]at h;simp only[zp,dY,List.cons.injEq,Nd.mk.injEq]at h;unfold vA;rw[<- h2,<- k2,h.1.2.1,hl]
def TR (L:List Tk):Prop:=(∀ t∈L,jM t)/\L.length<=900
theorem Vw.items (V:Vw L M o) (hM:o+L.length<=M.length) (tL:TR L) (tM:TR M):∀ (f:Nat) (acc:List Nd) (i:Nat) {res:List Nd} {k:Nat},gT L E f acc i=.ok res k->i<=L.length ->
 ∃ ts rO,res=acc++Tre.br ts/\ts.map vA=rO.map vA/\vO ts/\vO rO/\(ts≠[]->dW L i=true)/\(ts=[]->i=L.length)/\∀ ja fl,mq M E' ja fl (o+i)=mq M E' (ja++Tre.br rO) fl (o+L.length)
 | 0,acc,i,res,k,h,hi=>by cases h
 | f+1,acc,i,res,k,h,hi=>by
   rw[gT]at h;split at h
   . rename_i aL;obtain⟨a,j,h1,h⟩:=PR.al h;obtain⟨⟨t,rfl,t1,t2⟩,a2,a3⟩:=Bx tL.1 tL.2 h1;have hr:=V.item (E:=E) (E':=E') (f:=fuel L) (g:=fuel M) (by unfold fuel; omega) aL;rw[h1]at hr;cases hm:eJ M E' (fuel M) (o+i) with
     | bad j=>rw[hm]at hr; exact hr.elim
     | out=>rw[hm]at hr; exact hr.elim
     | ok b k' =>
       rw[hm]at hr;obtain⟨z,rfl,_⟩:=hr;obtain⟨⟨t',rfl,So,Sq⟩,_,_⟩:=Bx tM.1 tM.2 hm;obtain⟨ts,rO,e1,e2,e3,e4,_,_,e5⟩:=V.items hM tL tM f _ j h a3;refine⟨t::ts,t'::rO,by rw[e1]; simp,by simp[Zm z,e2],e3.cons t1 t2,e4.cons So Sq,λ _=>HK h1,λ h=>by simp at h,λ ja fl=>?_⟩;rw[AG (by omega) hm,e5];simp
   . obtain⟨rfl,rfl⟩:=PR.bg h;exact⟨[],[],by simp,rfl,⟨by simp,by simp⟩,⟨by simp,by simp⟩,λ h=>absurd rfl h,λ _=>by omega,λ ja fl=>by rw[show i=L.length by omega]; simp⟩
theorem Vw.mid (V:Vw L M o) (hM:o+L.length<=M.length) (tM:TR M) (h0:0<L.length) (hK:∀ i,1<=i->i<L.length->dW L i=false) (acc:List Nd) (fl:List Int) :
 ∃ ts Ve,ts.length<=1/\vO ts/\mq M E acc fl o=mq M E (acc++Tre.br ts) Ve (o+L.length):=by
 have uy:o+L.length=M.length\/dW M (o+L.length)=true:=by
  rcases V.stop with h|h
  . have:=List.getElem?_eq_none_iff.1 h; exact .inl (by omega)
  . exact .inr h
 have fL:∀ r,o+1<=r->r<o+L.length->dW M r=false:=λ r h1 h2=>by
  have:=hK (r-o) (by omega) (by omega);unfold dW at this ⊢;rw[<- V.yR (by omega),<- V.yR (by omega),<- V.yR (by omega),show o+(r-o)=r by omega]at this;exact this
 have hs:∀ p,o+1<=p->p<=o+L.length->gQ M M.length p=o+L.length:=λ p h1 h2=>Ig uy hM _ _ h2 (λ r h3 h4=>fL r (by omega) h4) (by omega);have hf:fuel L<=fuel M:=by unfold fuel; omega
 have g0:=kW (L:=L) (E:=E) (Nat.zero_le _);have r0:=V.item (E:=E) (E':=E) hf h0;cases hx:eJ L E (fuel L) 0 with
 | out=>rw[hx]at g0; exact g0.elim
 | bad j =>
   rw[hx]at r0 g0;cases hm:eJ M E (fuel M) (o+0) with
   | ok a b=>rw[hm]at r0; exact r0.elim
   | out=>rw[hm]at r0; exact r0.elim
   | bad k =>
     rw[hm]at r0;obtain⟨rfl,h2⟩:=r0;refine⟨[],fl++[cU M E (o+j)],by simp,⟨by simp,by simp⟩,?_⟩;rw[Nat.add_zero]at hm;rw[BL (by omega) hm,hs _ (by omega) (by omega)];simp
 | ok a j =>
   rw[hx]at r0 g0;cases hm:eJ M E (fuel M) (o+0) with
   | bad b=>rw[hm]at r0; exact r0.elim
   | out=>rw[hm]at r0; exact r0.elim
   | ok b k =>
     rw[hm]at r0;obtain⟨_,rfl,h2⟩:=r0;rw[Nat.add_zero]at hm;obtain⟨⟨t',rfl,So,Sq⟩,_,_⟩:=Bx tM.1 tM.2 hm;have hj:=g0.1;rw[AG (by omega) hm];rcases Nat.lt_or_eq_of_le h2 with h3|rfl
     . have hn:=hK j (by omega) h3;have g1:=kW (L:=L) (E:=E) h2;have r1:=V.item (E:=E) (E':=E) hf h3;cases hy:eJ L E (fuel L) j with
       | out=>rw[hy]at g1; exact g1.elim
       | ok c d=>rw[HK hy]at hn; cases hn
       | bad c =>
         rw[hy]at r1 g1;cases hz:eJ M E (fuel M) (o+j) with
         | ok a b=>rw[hz]at r1; exact r1.elim
         | out=>rw[hz]at r1; exact r1.elim
         | bad k =>
           rw[hz]at r1;obtain⟨rfl,h4⟩:=r1;refine⟨[t'],fl++[cU M E (o+c)],by simp,⟨by simp[So],by simp[Sq]⟩,?_⟩;rw[BL (by omega) hz,hs _ (by omega) (by omega)];simp
     . exact⟨[t'],fl,by simp,⟨by simp[So],by simp[Sq]⟩,by simp⟩
end
theorem I6 {l:List Nd}:∀ {ts:List Tre} {p:Nat},oz l p ts->∀ {i:Nat} {t:Tre},ts[i]?=some t->∃ q x,(cr p ts)[i]?=some q/\l[q]?=some x/\x.text=t.text/\x.size=t.flat.length
 | [],p,h,i,t,hi=>by simp at hi
 | u::ts,p,h,0,t,hi=>by
   simp only[List.getElem?_cons_zero,fZ]at hi;subst hi;obtain⟨x,h1,_,h2,h3,_⟩:=h.head.pP;exact⟨p,x,by simp[cr],h1,h3,h2⟩
 | u::ts,p,h,i+1,t,hi=>by
   obtain⟨q,x,h1,h2⟩:=I6 h.tail (i:=i) (t:=t) (by simpa using hi);exact⟨q,x,by simpa [cr] using h1,h2⟩
def prog (ts:List Tre):Tre:=.mk 1 [] 0 0 0 ts
theorem Md (ts:List Tre):(prog ts).flat=node 1 [] 0 0 0 (Tre.br ts):=by unfold prog; rw[Tre.eB]; rfl
theorem xB {ts:List Tre} {t:List Nd} (h:vO ts) (hw:dk (Tre.br ts)=(t,0)):t=(prog ts).flat/\fC t=0:=by
 unfold dk at hw;split at hw
 . cases hw
 . rename_i hn;simp only[fO,and_true]at hw;have hl:ts.length<=900:=by
    have:=Tre.pR ts;have h9:¬ 900<(node 1 [] 0 0 0 (Tre.br ts)).length:=λ h=>hn (.inl h);simp[node]at h9;omega
   rw[Md];refine⟨hw.symm,?_⟩;rw[<- hw,OB ⟨ts,rfl,h.1,h.2,rfl⟩ hl,if_neg hn]
theorem Fs (ts:List Tre):oz (prog ts).flat 1 ts:=by
 have:=fo.kids (fo.whole (prog ts));exact this
theorem Q8 {ts rO:List Tre} (h:ts.map vA=rO.map vA) {i:Nat} {t t':Tre} (h1:ts[i]?=some t) (h2:rO[i]?=some t'):t.text=t'.text/\t.flat.length=t'.flat.length:=by
 have:=congrArg (λ l=>l[i]?) h;simp only[jB,h1,h2,Option.map_some,fZ,vA,fO]at this;exact this
def Kh (l:List Nd) (a:List Nat) (i:Nat) (m:List Nd) (b:List Nat) (j:Nat):Prop:=∃ p q x z,a[i]?=some p/\b[j]?=some q/\l[p]?=some x/\m[q]?=some z/\x.text=z.text/\x.size=z.size
theorem smh {ts ys:List Tre} {i j:Nat} {t y:Tre} (h1:ts[i]?=some t) (h2:ys[j]?=some y) (h:t.text=y.text/\t.flat.length=y.flat.length):Kh (prog ts).flat (cr 1 ts) i (prog ys).flat (cr 1 ys) j:=by
 obtain⟨p,x,a1,a2,a3,a4⟩:=I6 (Fs ts) h1;obtain⟨q,z,b1,b2,b3,b4⟩:=I6 (Fs ys) h2;exact⟨p,q,x,z,a1,b1,a2,b2,by rw[a3,b3,h.1],by rw[a4,b4,h.2]⟩
theorem Jr {ts o8 mid us rP:List Tre} (h1:ts.map vA=o8.map vA) (h2:us.map vA=rP.map vA) :
 (∀ i,i<ts.length->Kh (prog ts).flat (cr 1 ts) i (prog (o8++mid++rP)).flat (cr 1 (o8++mid++rP)) i) /\
 (∀ i,1<=i->i<=us.length->Kh (prog us).flat (cr 1 us) (us.length-i) (prog (o8++mid++rP)).flat (cr 1 (o8++mid++rP)) ((o8++mid++rP).length-i)):=by
 have l1:ts.length=o8.length:=by simpa using congrArg List.length h1
 have l2:us.length=rP.length:=by simpa using congrArg List.length h2
 constructor
 . intro i hi;have a1:ts[i]?=some ts[i]:=by simp[hi]
   have a2:o8[i]?=some (o8[i]'(by omega)):=by simp[show i<o8.length by omega]
   refine smh a1 ?_ (Q8 h1 a1 a2);rw[nu,rF (by omega),a2]
 . intro i hi iv;have aL:us.length-i<us.length:=by omega
   have a1:us[us.length-i]?=some us[us.length-i]:=by simp[aL]
   have a2:rP[us.length-i]?=some (rP[us.length-i]'(by omega)):=by simp[show us.length-i<rP.length by omega]
   refine smh a1 ?_ (Q8 h2 a1 a2);have e:(o8++mid++rP).length-i=(o8++mid).length+(us.length-i):=by simp only[eG]; omega
   rw[e,List.getElem?_append_right (by omega),Nat.add_sub_cancel_left,a2]
theorem su {s:aT} {t:List Nd} {p:Int} (h:fh s=(t,p,0)):∃ L acc k,eA s=.ok L/\gT L s.length (L.length+1) [] 0=.ok acc k/\dk acc=(t,0):=by
 unfold fh at h;cases hl:eA s with
 | bad q e =>
   rw[hl]at h;simp only[fO]at h;exact absurd h.2.2 (pj hl)
 | ok L =>
   rw[hl]at h;simp only at h;cases hi:gT L s.length (L.length+1) [] 0 with
   | bad j=>rw[hi]at h; simp at h
   | out =>
     have:=Cy (L:=L) (E:=s.length) (L.length+1) [] 0 (Nat.zero_le _) (by omega);rw[hi]at this; exact this.elim
   | ok acc k =>
     rw[hi]at h;simp only[fO]at h;exact⟨L,acc,k,rfl,hi,Prod.ext h.1 h.2.2⟩
theorem CS {s:aT} {t:List Nd} {fl:List Int} (h:fP s=(t,fl,0)):∃ L acc,eA s=.ok L/\mq L s.length [] [] 0=(acc,fl)/\dk acc=(t,0):=by
 unfold fP at h;cases hl:eA s with
 | bad q e =>
   rw[hl]at h;simp only[fO]at h;exact absurd h.2.2 (pj hl)
 | ok L =>
   rw[hl]at h;simp only at h;split at h
   . rename_i hw;simp only[fO,and_true]at h;exact⟨L,_,rfl,Prod.ext rfl h.2,Prod.ext h.1 hw⟩
   . rename_i hw;simp only[fO]at h;exact absurd h.2.2 hw
theorem JP {s:aT} {t:List Nd} {p:Int} (h:fh s=(t,p,0)):fP s=(t,[],0):=by
 obtain⟨L,acc,k,h1,h2,h3⟩:=su h;unfold fP;rw[h1];have:=wG _ _ _ h2 [];unfold mq at this;simp only[this,h3,if_true]
theorem GN {s:aT} (h:(fh s).2.2=4) (h0:(fP s).2.2=0):(fP s).2.1≠[]:=by
 rcases hr:fP s with ⟨t,fl,e⟩
 rw[hr]at h0;simp only at h0;subst h0;obtain⟨L,acc,h1,h2,h3⟩:=CS hr;unfold fh at h;rw[h1]at h;simp only at h;cases hi:gT L s.length (L.length+1) [] 0 with
 | bad j =>
   have:=Cz _ _ _ hi [];rw[h2]at this;exact this
 | out=>rw[hi]at h; cases h
 | ok ja k =>
   rw[hi]at h;have:=wG _ _ _ hi [];rw[h2]at this;simp only[fO]at this;rw[<- this.1]at h;simp only[h3]at h;cases h
theorem J6 {P Q R L:List Tk} {o:Nat} (hq:Q=lu o L) (hR:R=[]\/dW R 0=true):Vw L (P++(Q++R)) P.length:=by
 have hlen:Q.length=L.length:=by rw[hq]; simp[lu]
 refine⟨λ i t ht=>?_,?_⟩
 . have hi:=(dp.1 ht).1;refine⟨⟨t.k,t.s,o+t.at_⟩,?_,rfl,rfl⟩;rw[List.getElem?_append_right (by omega),Nat.add_sub_cancel_left,rF (by omega),hq];simp[lu,ht]
 . rcases hR with rfl|h
   . left; simp[hlen]
   . right;have e:∀ w,bB (P++(Q++R)) (P.length+L.length) w=bB R 0 w:=λ w=>by
      unfold bB;rw[List.getElem?_append_right (by omega),Nat.add_sub_cancel_left,List.getElem?_append_right (by omega),hlen,Nat.sub_self]
     unfold dW at h ⊢;rw[e,e,e]; exact h
theorem Sg {o:Nat} {L:List Tk} (i:Nat):dW (lu o L) i=dW L i:=by
 have:∀ w,bB (lu o L) i w=bB L i w:=λ w=>by
  unfold bB lu;rw[jB];cases L[i]?<;>rfl
 unfold dW;rw[this,this,this]
theorem Wv {P Q:List Tk} (h:dW P 0=true):dW (P++Q) 0=true:=by
 cases P with
 | nil=>simp[dW,bB]at h
 | cons x P=>simpa [dW,bB] using h
def jA:aT:=[100,101,102,32]
theorem B9 {item:aT} {X:List Tk} (h:eA (jA++item)=.ok X):0<X.length/\dW X 0=true:=by
 have hF:=EZ h;have hlen:(jA++item).length=item.length+3+1:=by simp[jA]
 rw[hlen,dE]at hF;have ht:fg (jA++item)=(0,3,fA):=by
  have e:(jA++item).takeWhile eh=fA:=by
   show List.takeWhile eh (100::101::102::32::item)=_;rw[mj,if_pos (by decide),mj,if_pos (by decide),mj,if_pos (by decide),mj,if_neg (by decide)];rfl
  unfold fg;rw[e];rfl
 have hd:(jA++item).drop 0=100::(101::102::32::item):=rfl;rw[show (100:UInt8)::(101::102::32::item)=jA++item from rfl]at hd;have hF':dE (item.length+3) (jA++item) 3 [⟨3,fA,0⟩]=.ok X:=by
  rw[hd]at hF;simp only[show jA++item=(100:UInt8)::(101::102::32::item) from rfl]at hF ht ⊢;simp only[ht]at hF;simpa [show fA.length=3 from rfl] using hF
 have sP:∀ (f:Nat) (s:aT) (p:Nat) (l X:List Tk),dE f s p l=.ok X->∃ Y,X=l++Y:=by
  intro f
  induction f with
  | zero=>intro s p l X h; simp only[dE,uf.ok.injEq]at h; exact⟨[],by simp[h]⟩
  | succ f ih =>
    intro s p l X h;rw[dE]at h;split at h
    . simp only[uf.ok.injEq]at h; exact⟨[],by simp[h]⟩
    . split at h
      . exact ih _ _ _ _ h
      . split at h
        . exact ih _ _ _ _ h
        . split at h;split at h
          . cases h
          . split at h
            . cases h
            . obtain⟨Y,h⟩:=ih _ _ _ _ h;exact⟨_,by rw[h,nu]⟩
 obtain⟨Y,rfl⟩:=sP _ _ _ _ _ hF';refine⟨by simp,?_⟩;show dW (⟨3,fA,0⟩::Y) 0=true;unfold dW bB;rfl
theorem BM {a it b:aT} {t u y:List Nd} {p q:Int} {fl:List Int} {X:List Tk} (ht:fh a=(t,p,0)) (hu:fh b=(u,q,0)) (hX:eA (jA++it)=.ok X) (fL:∀ i,1<=i->i<X.length->dW X i=false) (hy:fP (a++10::((jA++it)++10::b))=(y,fl,0)) :
 ∃ ts us ys,t=(prog ts).flat/\u=(prog us).flat/\y=(prog ys).flat/\fC t=0/\fC u=0/\fC y=0/\ts.length+us.length<=ys.length/\ys.length<=ts.length+us.length+1/\(∀ i,i<ts.length->Kh t (cr 1 ts) i y (cr 1 ys) i)/\(∀ i,1<=i->i<=us.length->Kh u (cr 1 us) (us.length-i) y (cr 1 ys) (ys.length-i)):=by
 obtain⟨A,adl,kA,hA,iA,wA⟩:=su ht;obtain⟨B,adm,kB,hB,iB,wB⟩:=su hu;obtain⟨M,aaj,hM,rM,wM⟩:=CS hy;have hj:=PD hA hX hB hM;obtain⟨x0,xI⟩:=B9 hX;generalize hE:(a++10::((jA++it)++10::b)).length=E at rM;have lx:∀ (o:Nat) (l:List Tk),(lu o l).length=l.length:=λ o l=>by simp[lu]
 have hML:M.length=A.length+X.length+B.length:=by rw[hj]; simp[lx,Nat.add_assoc]
 have hz:A=lu 0 A:=by unfold lu; simp
 generalize a.length+1=o1 at hj;generalize o1+(jA++it).length+1=o2 at hj;have VB:Vw B M (A.length+X.length):=by
  have:=J6 (P:=A++lu o1 X) (Q:=lu o2 B) (R:=[]) rfl (.inl rfl);simpa [hj,lx] using this
 have VA:Vw A M 0:=by
  have:=J6 (P:=[]) (Q:=A) (R:=lu o1 X++lu o2 B) hz (.inr (Wv (by rw[Sg]; exact xI)));simpa [hj] using this
 have tA:=oo hA;have tB:=oo hB;have tM:=oo hM;obtain⟨us,rP,b1,b2,b3,b4,b5,b6,b7⟩:=VB.items (E':=E) (by omega) tB tM _ _ _ iB (Nat.zero_le _);obtain⟨ts,o8,a1,a2,a3,a4,a5,a6,a7⟩:=VA.items (E':=E) (by omega) tA tM _ _ _ iA (Nat.zero_le _);have VX:Vw X M A.length:=by
  have:=J6 (P:=A) (Q:=lu o1 X) (R:=lu o2 B) rfl (by
   by_cases h:us=[]
   . left;have:=b6 h;exact oQ.1 (by rw[lx]; omega)
   . right; rw[Sg]; exact b5 h)
  simpa [hj] using this
 obtain⟨mid,Ve,m1,m2,m3⟩:=VX.mid (E:=E) (by omega) tM x0 fL (Tre.br o8) [];have e1:=a7 [] [];have e2:=b7 (Tre.br o8++Tre.br mid) Ve;rw[Nat.add_zero]at e2;rw[Nat.add_zero,cq,iK,m3,e2,Ic (i:=A.length+X.length+B.length) (by omega)]at e1;rw[e1]at rM;simp only[fO]at rM;have Pf:aaj=Tre.br (o8++mid++rP):=by rw[<- rM.1,Tre.jb,Tre.jb]
 rw[Pf]at wM;rw[iK]at a1 b1;subst a1 b1;obtain⟨t1,t2⟩:=xB a3 wA;obtain⟨u1,u2⟩:=xB b3 wB;obtain⟨y1,y2⟩:=xB ((a4.app m2).app b4) wM;obtain⟨k1,k2⟩:=Jr (mid:=mid) a2 b2;have l1:ts.length=o8.length:=by simpa using congrArg List.length a2
 have l2:us.length=rP.length:=by simpa using congrArg List.length b2
 refine⟨ts,us,o8++mid++rP,t1,u1,y1,t2,u2,y2,by simp only[eG]; omega,by simp only[eG]; omega,?_,?_⟩
 . rw[t1,y1]; exact k1
 . rw[u1,y1]; exact k2
theorem S0 {L:List Tk} {i:Nat} (hL:∀ t∈L,jM t) (h:dW L i=true):∃ t,L[i]?=some t/\t.k=3/\(t.s=ep\/t.s=fA\/t.s=ef):=by
 obtain⟨t,h1,_,h2⟩:=Lq h;have h3:=(hL t (gA h1)).2;refine⟨t,h1,?_,h2⟩;rcases h2 with e|e|e<;>rw[e]at h3
 . have:(fg ep).2.1=3:=by decide
   rw[h3]at this; exact this
 . have:(fg fA).2.1=3:=by decide
   rw[h3]at this; exact this
 . have:(fg ef).2.1=3:=by decide
   rw[h3]at this; exact this
end Go.Rip
set_option maxRecDepth 100000
namespace Go.Rip
open Go.Proofs Go.RowKit
def wF (t:Tk):Bool:=decide (t.k=3/\(t.s=ep\/t.s=fA\/t.s=ef))
theorem GA (t:Tk):Pure K 34 [.agg (jK t)] (.bool (wF t)):=by
 refine Pure.of rfl rfl (λ U=>rfl) λ R hR=>?_;refine P4 ?_;unfold RZ;rw[fY rfl];intro b1 hb1;have m1:((bK ⟨.e,0⟩).new b1 (.box (au (.agg (jK t))))).box b1=some (jK t):=aI;generalize (bK _).new b1 _=az at *;refine QS (gq m1 rfl ?_);rw[bw,ak];have fin:∀ b:Bool,b=wF t->aq R (.bool b) az:=λ b h=>by rw[h]; exact aq.mk (hR _)
 by_cases hk:t.k=3
 . have e3:decide ((t.k:Int)=3)=true:=decide_eq_true (by omega);rw[e3];have ld:∀ {gv:AV} {k:AV->Prop},gv=.bool true->k (.str t.s)->af K gv (ah (some 1) (.box b1 0)) λ p=>af K gv (ar (some (false,1)) p az) k:=λ hg h=>by
    subst hg;simp only[aP,cn];exact kD (eL m1 rfl h)
   refine ld rfl (jc rfl ?_);rw[jO,aD];refine fG rfl rfl ?_
   by_cases h1:t.s=ep
   . rw[decide_eq_true h1];refine eM rfl (eM rfl (eM rfl (fG rfl rfl (fG rfl rfl (eM rfl (eM rfl (eM rfl (fG rfl rfl (zD (fin _ ?_))))))))));simp[wF,hk,h1]
   . rw[decide_eq_false h1];refine ld rfl (jc rfl ?_);rw[jO,aD];refine fG rfl rfl (fG rfl rfl ?_)
     by_cases h2:t.s=fA
     . rw[decide_eq_true h2];refine eM rfl (eM rfl (eM rfl (fG rfl rfl (zD (fin _ ?_)))));simp[wF,hk,h2]
     . rw[decide_eq_false h2];refine ld rfl (jc rfl ?_);rw[jO,aD];refine fG rfl rfl (zD (fin _ ?_));simp[wF,hk,h1,h2]
 . have e3:decide ((t.k:Int)=3)=false:=decide_eq_false (by omega);rw[e3];refine eM rfl (eM rfl (eM rfl (eM rfl (eM rfl (eM rfl (eM rfl (eM rfl (eM rfl (eM rfl (eM rfl (eM rfl (eM rfl (ve (fin _ ?_))))))))))))));simp[wF,hk]
section
variable {gv:AV} {k:AV->Prop}
theorem Vk {b:Nat} {v:AV} {U:St} (hg:gv=.bool true) (hb:U.box b=some [v]) (h:k (.agg [v])):af K gv (ar (some (true,1)) (.box b 0) U) k:=by
 subst hg;simp only[aP,cn];rw[AD hb];exact⟨by simp,h⟩
theorem LC (fl:List Int):bR (some false) (yo fl)=.val (.int .i64 (fl.length:Nat)):=by
 unfold yo;split
 . rename_i h; rw[h]; rfl
 . rfl
theorem zb (ks:List Nat):bR (some false) (j4 ks)=.val (.int .i64 (ks.length:Nat)):=(EU ks).len
end
theorem FC {e g:Int} {l:List Int} {t x:List Nd} {U:St} {b7 vS:Nat} {j Kp:AV->St->Prop} (m7:U.box b7=some [cZ t]) (m13:U.box vS=some [cZ x]) (hl:e=0->t.length<=1000000) (h:e=0->g=0/\l=[]/\x=t) (hj:j (.bool false) U) :
 (aw .eql (BT.mk false false false none false) true (.int .i64 e) (AV.int .i64 0)).wp K U (λ jY U =>
 af K (aB jY true) (ay.val (.int .i64 g)) (λ xr =>
 af K (aB jY true) (aw .neq (BT.mk false false false none false) true xr (AV.int .i64 0)) (λ v59 =>
 af K (aB jY true) (ay.val v59) (λ oY =>
 af K (aB oY false) (ay.val (yo l)) (λ qd =>
 af K (aB oY false) (bR (some false) qd) (λ F1 =>
 af K (aB oY false) (aw .neq (BT.mk false false false none false) true F1 (AV.int .i64 0)) (λ yP =>
 af K (aB jY true) (bu oY (AV.bool true) yP) (λ qe =>
 af K (aB jY true) (ay.val qe) (λ oZ =>
 af K (aB oZ false) (ar (some (true,1)) (.box b7 0) U) (λ xu =>
 af K (aB oZ false) (ar (some (true,1)) (.box vS 0) U) (λ sE =>
 af K (aB oZ false) (ay.enter 22 [xu,sE]) (λ C2 =>
 af K (aB oZ false) (ig .not C2) (λ xv =>
 af K (aB jY true) (bu oZ (AV.bool true) xv) (λ v70 =>
 (bu jY v70 (AV.bool false)).wp K U j Kp)))))))))))))) Kp:=by
 by_cases he:e=0
 . obtain⟨rfl,rfl,rfl⟩:=h he;refine XO he (fG rfl rfl (jc rfl (tR rfl (fG rfl rfl (fG rfl rfl (jc rfl ?_))))));rw[LC,aD];refine jc rfl (tR rfl (fG rfl rfl (fG rfl rfl (Vk rfl m7 (Vk rfl m13 (jc rfl (tQ (Mo _ _ (hl he) (hl he)) (jc rfl ?_))))))));rw[dr,aD,decide_eq_true rfl];exact fG rfl rfl (zD hj)
 . refine XN he ?_;exact eM rfl (eM rfl (eM rfl (eM rfl (eM rfl (eM rfl (eM rfl (eM rfl (eM rfl (eM rfl (eM rfl (eM rfl (eM rfl (ve hj)))))))))))))
theorem FD {e g:Int} {l:List Int} {j:AV->Prop} (h:e=4->g=0->l≠[]) (hj:j (.bool false)) :
 af K (aB (.bool false) false) (ay.val (.int .i64 e)) (λ xw =>
 af K (aB (.bool false) false) (aw .eql (BT.mk false false false none false) true xw (AV.int .i64 4)) (λ tX =>
 af K (aB (.bool false) false) (ay.val tX) (λ v75 =>
 af K (aB v75 true) (ay.val (.int .i64 g)) (λ v76 =>
 af K (aB v75 true) (aw .eql (BT.mk false false false none false) true v76 (AV.int .i64 0)) (λ vL =>
 af K (aB (.bool false) false) (bu v75 vL (AV.bool false)) (λ C3 =>
 af K (aB (.bool false) false) (ay.val C3) (λ tY =>
 af K (aB tY true) (ay.val (yo l)) (λ v80 =>
 af K (aB tY true) (bR (some false) v80) (λ C4 =>
 af K (aB tY true) (aw .eql (BT.mk false false false none false) true C4 (AV.int .i64 0)) (λ yQ =>
 af K (aB (.bool false) false) (bu tY yQ (AV.bool false)) j)))))))))):=by
 refine fG rfl rfl (jc rfl ?_);rw[bw,aD];refine fG rfl rfl ?_
 by_cases he:e=4
 . rw[decide_eq_true he];refine fG rfl rfl (jc rfl ?_);rw[bw,aD];refine fG rfl rfl (fG rfl rfl ?_)
   by_cases hg:g=0
   . rw[decide_eq_true hg];refine fG rfl rfl (jc rfl ?_);rw[LC,aD];refine jc rfl ?_;have:¬ ((l.length:Int)=0):=λ h0=>h he hg (oQ.1 (by omega));rw[bw,aD,decide_eq_false this];exact fG rfl rfl hj
   . rw[decide_eq_false hg];exact eM rfl (eM rfl (eM rfl (fG rfl rfl hj)))
 . rw[decide_eq_false he];exact eM rfl (eM rfl (fG rfl rfl (fG rfl rfl (eM rfl (eM rfl (eM rfl (fG rfl rfl hj)))))))
theorem Oz {i:IntKind} {x y:Int} {b:Bool} {bt:BT} {U:St} {j Kp:AV->St->Prop} (h:x=y) (hk:j (.bool false) U):(aw .neq bt b (.int i x) (.int i y)).wp K U j Kp:=by rw[cP,ak,decide_eq_true h]; exact hk
theorem OA {i:IntKind} {x y:Int} {b:Bool} {bt:BT} {U:St} {j Kp:AV->St->Prop} (h:x≠y) (hk:j (.bool true) U):(aw .neq bt b (.int i x) (.int i y)).wp K U j Kp:=by rw[cP,ak,decide_eq_false h]; exact hk
theorem Mf {i:IntKind} {x y:Int} {b:Bool} {bt:BT} {k:AV->Prop} (h:x≠y) (hk:k (.bool true)):ao K (aw .neq bt b (.int i x) (.int i y)) k:=by rw[cP,aD,decide_eq_false h]; exact hk
theorem xj {e f g:Int} {U:St} {j Kp:AV->St->Prop} (h:e≠0\/f≠0\/g≠0->j (.bool true) U) (hj:e=0->f=0->g=0->j (.bool false) U) :
 (aw .neq (BT.mk false false false none false) true (.int .i64 e) (AV.int .i64 0)).wp K U (λ v93 U =>
 af K (aB v93 false) (ay.val (.int .i64 f)) (λ F4 =>
 af K (aB v93 false) (aw .neq (BT.mk false false false none false) true F4 (AV.int .i64 0)) (λ C5 =>
 (bu v93 (AV.bool true) C5).wp K U (λ xx U =>
 af K (aB xx false) (ay.val (.int .i64 g)) (λ On =>
 af K (aB xx false) (aw .neq (BT.mk false false false none false) true On (AV.int .i64 0)) (λ u7 =>
 (bu xx (AV.bool true) u7).wp K U j Kp))) Kp))) Kp:=by
 by_cases he:e=0
 . refine Oz he (fG rfl rfl (jc rfl ?_))
   by_cases hf:f=0
   . refine tR hf (ve (fG rfl rfl (jc rfl ?_)))
     by_cases hg:g=0
     . exact tR hg (ve (hj he hf hg))
     . exact Mf hg (ve (h (.inr (.inr hg))))
   . exact Mf hf (ve (eM rfl (eM rfl (zD (h (.inr (.inl hf)))))))
 . exact OA he (eM rfl (eM rfl (zD (eM rfl (eM rfl (zD (h (.inl he))))))))
theorem L9 {s:aT} {t:List Nd} {p:Int} (h:fh s=(t,p,0)):t.length<=900:=by
 obtain⟨L,acc,k,_,_,hw⟩:=su h;unfold dk at hw;split at hw
 . cases hw
 . rename_i hn;simp only[fO,and_true]at hw;rw[<- hw];exact Nat.le_of_not_lt λ h=>hn (.inl h)
theorem Zk {X:List Tk} {i:Nat} {t:Tk} {U:St} {j Kp:AV->St->Prop} (hx:X[i]?=some t) (h:j (.agg (jK t)) U):(aJ (some (51,3)) none (nv X) (.int .i64 (i:Nat))).wp K U (λ p U=>(ar (some (true,3)) p U).wp K U j Kp) Kp:=by
 have aL:=(dp.1 hx).1;obtain⟨r,hr⟩:=tV hx;obtain⟨c,h1,oe⟩:=(x7 X).at (sz:=3) (e:=51) aL;rw[oe,wp_cond,ak,hr,tZ];exact⟨by omega,by simp[jK],h⟩
theorem Ly {ts:List Tre} (hc:fC (prog ts).flat=0):sf (prog ts).flat 0=cr 1 ts/\mZ (prog ts).flat 0=0:=by
 have ha:mZ (prog ts).flat 0=0:=G2 hc ⟨Int.le_refl _,by have:=(prog ts).dU; omega⟩;refine⟨?_,ha⟩;unfold sf;rw[if_pos ha];exact Lx (fo.whole (prog ts))
theorem uX {ks:List Nat} {k:AV->Prop} (h:k (.int .i64 (ks.length:Nat))):ao K (bR (some false) (j4 ks)) k:=by rw[zb,aD]; exact h
theorem De (a b c:aT) (ha:a.length<=140737488355328) (hb:b.length<=140737488355328) (hc:c.length<=140737488355328):Pure K 7 [.str a,.str b,.str c] (.bool true):=by
 refine Pure.of rfl rfl (λ U=>rfl) λ R hR=>?_;refine Ty ?_;unfold Xf;rw[iX a,ak,iX b,ak,dm];refine⟨bD (by omega) (by omega),?_⟩;rw[iX c,ak,dm];refine⟨bD (by omega) (by omega),?_⟩;rw[eX,ak];refine tn (λ h=>oA.go (aq.mk (hR _))) λ h=>?_;refine (Ay a (by omega)).go ?_;obtain⟨t,p,e,hp⟩:∃ l p e,fh a=(l,p,e):=⟨_,_,_,rfl⟩;rw[hp];simp only[rC,bh,List.drop,bl];rw[cK];intro b7 qs;have m7:((bK ⟨.e,0⟩).new b7 (.box [AV.ag])).box b7=some [.ag]:=aI;generalize (bK _).new b7 _=az at *;rw[cL m7];refine⟨⟨rfl,rfl,by simp⟩,?_⟩;have m7:(az.set b7 (.box (ax [AV.ag] 0 (au (.agg [cZ t]))))).box b7=some [cZ t]:=by rw[aX]; rfl
 generalize az.set b7 _=bF at *;refine (Ay c (by omega)).go ?_;obtain⟨u,q,f,hu⟩:∃ l p e,fh c=(l,p,e):=⟨_,_,_,rfl⟩;rw[hu];simp only[rC,bh,List.drop,bl];rw[cK];intro iM y5;have m10:(bF.new iM (.box [AV.ag])).box iM=some [.ag]:=aI;have n1:=y5.bP m7;have m7:=(bC y5 (x:=.box [AV.ag])).bf m7;generalize bF.new iM _=bI at *;rw[cL m10];refine⟨⟨rfl,rfl,by simp⟩,?_⟩;have m7:(bI.set iM (.box (ax [AV.ag] 0 (au (.agg [cZ u]))))).box b7=some [cZ t]:=by rw[aM n1]; exact m7
 have m10:(bI.set iM (.box (ax [AV.ag] 0 (au (.agg [cZ u]))))).box iM=some [cZ u]:=by rw[aX]; rfl
 generalize bI.set iM _=cj at *;refine (xk a (by omega)).go ?_;obtain⟨x,l,g,hx⟩:∃ x l g,fP a=(x,l,g):=⟨_,_,_,rfl⟩;rw[hx];simp only[rI,bh,List.drop,bl];rw[cK];intro vS El;have m13:(cj.new vS (.box [AV.ag])).box vS=some [.ag]:=aI;have n2:=El.bP m7;have n3:=El.bP m10;have m7:=(bC El (x:=.box [AV.ag])).bf m7;have m10:=(bC El (x:=.box [AV.ag])).bf m10;generalize cj.new vS _=cm at *;rw[cL m13];refine⟨⟨rfl,rfl,by simp⟩,?_⟩;have m7:(cm.set vS (.box (ax [AV.ag] 0 (au (.agg [cZ x]))))).box b7=some [cZ t]:=by rw[aM n2]; exact m7
 have m10:(cm.set vS (.box (ax [AV.ag] 0 (au (.agg [cZ x]))))).box iM=some [cZ u]:=by rw[aM n3]; exact m10
 have m13:(cm.set vS (.box (ax [AV.ag] 0 (au (.agg [cZ x]))))).box vS=some [cZ x]:=by rw[aX]; rfl
 generalize cm.set vS _=cY at *;clear qs y5 El n1 n2 n3;have aa3:∀ {l:List Nd},fC l=0->l.length<=900:=λ {l} hc=>Nat.le_of_not_lt λ h=>by unfold fC at hc; rw[if_pos h]at hc; cases hc
 have KW:e=4->g=0->l≠[]:=λ he hg=>by
  have:=GN (s:=a) (by rw[hp]; exact he) (by rw[hx]; exact hg);rwa [hx]at this
 have Dt:e=0->g=0/\l=[]/\x=t:=λ he=>by
  subst he;have:=JP hp;rw[hx]at this;simp only[fO]at this;exact⟨this.2.2,this.2.1,this.1⟩
 refine FC m7 m13 (λ he=>by subst he; have:=L9 hp; omega) Dt (FD KW (ve (eV ?_)));clear KW Dt m13 hx;rw[A0];refine⟨by simp[F9]; omega,?_⟩;refine (sZ (jA++b) (by simp[jA]; omega)).go ?_;have og:∃ (v:AV) (q h:Int),p7 (eA (jA++b))=.aQ [v,.int .i64 q,.int .i64 h]/\(h=0->∃ X,eA (jA++b)=.ok X/\v=nv X):=by
  cases hl:eA (jA++b) with
  | ok X=>exact⟨_,_,_,rfl,λ _=>⟨X,rfl,rfl⟩⟩
  | bad p e=>exact⟨_,_,_,rfl,λ h=>absurd h (pj hl)⟩
 obtain⟨cO,q16,Q5,og,hXf⟩:=og;rw[og];simp only[bh,List.drop,bl];refine xj (λ _=>ez (oA.go (aq.mk (hR _)))) λ he hf hh=>eV ?_;subst he hf hh;obtain⟨X,hX,rfl⟩:=hXf rfl;obtain⟨x0,xI⟩:=B9 hX;refine⟨λ m w0 w1 w2 w7 xy w16 w19 ad=>∃ i:Nat,m=X.length-i/\1<=i/\i<=X.length/\(∀ k,1<=k->k<i->dW X k=false)/\w0=.str a/\w1=.str b/\w2=.str c/\w7=.box b7 0/\xy=.box iM 0/\w16=nv X/\w19=.int .i64 (i:Nat)/\ad.box b7=some [cZ t]/\ad.box iM=some [cZ u],⟨_,1,rfl,by omega,by omega,λ k h1 h2=>by omega,rfl,rfl,rfl,rfl,rfl,rfl,rfl,m7,m10⟩,?_⟩;rintro m w0 w1 w2 w7 xy w16 w19 kP ⟨i,rfl,ZQ,hi,fL,rfl,rfl,rfl,rfl,rfl,rfl,rfl,m7,m10⟩;rw[(x7 X).len,ak,bX,ak];refine tn (λ aL=>?_) λ jW=>?_
 . have aL:i<X.length:=by omega
   obtain⟨tk,ht⟩:∃ tk,X[i]?=some tk:=⟨X[i],by simp[aL]⟩;refine Zk ht ((GA tk).go ?_);cases hw:wF tk with
   | true=>exact ez (oA.go (aq.mk (hR _)))
   | false =>
     refine eV ?_;have hX9:=(oo hX).2;rw[dm];refine⟨bD (by omega) (by omega),X.length-(i+1),by omega,i+1,rfl,by omega,aL,λ k h1 h2=>?_,rfl,rfl,rfl,rfl,rfl,rfl,rfl,m7,m10⟩;rcases Nat.lt_or_eq_of_le (Nat.le_of_lt_succ h2) with h3|rfl
     . exact fL k h1 h3
     . cases hi:dW X k with
       | false=>rfl
       | true =>
         obtain⟨t',qu,h4⟩:=S0 (oo hX).1 hi;rw[ht]at qu;cases qu;rw[show wF tk=true from decide_eq_true h4]at hw;cases hw
 have Re:i=X.length:=by omega
 subst Re;rw[A0];refine⟨by simp[jU]; omega,?_⟩;rw[A0];refine⟨by simp[jU]; omega,?_⟩;rw[A0];refine⟨by simp[jU,pL]; omega,?_⟩;rw[A0];refine⟨by simp[jU,pL]; omega,?_⟩;rw[show a++jU++b++pL++c=a++10::((jA++b)++10::c) by simp[jU,pL,jA]];refine (xk _ (by simp[jA]; omega)).go ?_;obtain⟨y,fl,g2,hy⟩:∃ x l g,fP (a++10::((jA++b)++10::c))=(x,l,g):=⟨_,_,_,rfl⟩;rw[hy];simp only[rI,bh,List.drop,bl];rw[cK];intro vq Em;have m20:(kP.new vq (.box [AV.ag])).box vq=some [.ag]:=aI;have n2:=Em.bP m7;have n3:=Em.bP m10;have m7:=(bC Em (x:=.box [AV.ag])).bf m7;have m10:=(bC Em (x:=.box [AV.ag])).bf m10;generalize kP.new vq _=jZ at *;rw[cL m20];refine⟨⟨rfl,rfl,by simp⟩,?_⟩;have m7:(jZ.set vq (.box (ax [AV.ag] 0 (au (.agg [cZ y]))))).box b7=some [cZ t]:=by rw[aM n2]; exact m7
 have m10:(jZ.set vq (.box (ax [AV.ag] 0 (au (.agg [cZ y]))))).box iM=some [cZ u]:=by rw[aM n3]; exact m10
 have m20:(jZ.set vq (.box (ax [AV.ag] 0 (au (.agg [cZ y]))))).box vq=some [cZ y]:=by rw[aX]; rfl
 generalize jZ.set vq _=ue at *;clear Em n2 n3
 by_cases hg:g2=0
 rotate_left
 . exact OA hg (ez (oA.go (aq.mk (hR _))))
 subst hg;refine Oz rfl (eV ?_);obtain⟨ts,us,ys,rfl,rfl,rfl,ct,cu,cy,l1,l2,s1,s2⟩:=BM hp hu hX (λ k h1 h2=>fL k h1 h2) hy;have bd:∀ {l:List Nd},fC l=0->l.length<=10000/\∀ x∈l,x.text.length<=3000:=λ {l} h=>⟨by have:=aa3 h; omega,λ x hx=>by have:=JR h x hx; omega⟩;have kN:∀ {zs:List Tre} {bz:Nat} {j Kp:AV->St->Prop},fC (prog zs).flat=0->ue.box bz=some [cZ (prog zs).flat]->j (.aQ [j4 (cr 1 zs),.int .i64 0]) ue ->
  (ar (some (true,1)) (.box bz 0) ue).wp K ue (λ v131 U=>ae K 26 [v131] U (aj (λ F0 U=>ae K 35 [F0,(AV.int .i64 0)] U (aj j Kp)) Kp)) Kp:=by
  intro zs bz j Kp h mz hj;have e:=Ly h;have:=Lz (xS (prog zs).flat) (bd h).1 (bd h).2 0;rw[e.1,e.2]at this;exact A8 mz ((KA (xS _) (by have:=(bd h).1; omega)).go (this.go hj))
 refine kN ct m7 ?_;simp only[bh,List.drop,bl];refine kN cu m10 ?_;simp only[bh,List.drop,bl];refine kN cy m20 ?_;simp only[bh,List.drop,bl];refine xj (λ h=>by simp at h) λ _ _ _=>?_;have hy9:=(bd cy).1;have hys:=Tre.pR ys;have hyl:=nP (prog ys);have Wq:(prog ys).kids=ys:=rfl;rw[Wq]at hyl;have st:∀ ks:List Tre,(cr 1 ks).length=ks.length:=λ ks=>qp 1 ks;refine fG rfl rfl (jc rfl (uX (fG rfl rfl (jc rfl (uX (fG rfl rfl (jc rfl (uX (jc rfl ?_)))))))));rw[xV];refine⟨bD (by simp only[st]; omega) (by simp only[st]; omega),jc rfl (WU (by simp only[st]; omega) (ve ?_))⟩;refine fG rfl rfl (jc rfl (uX (fG rfl rfl (jc rfl (uX (fG rfl rfl (jc rfl (uX (jc rfl ?_)))))))));rw[xV];refine⟨bD (by simp only[st]; omega) (by simp only[st]; omega),jc rfl ?_⟩;rw[xV];refine⟨bD (by simp only[st]; omega) (by simp only[st]; omega),jc rfl (WS (by simp only[st]; omega) (ve (eV ?_)))⟩;have is:=λ ks:List Tre=>EU (cr 1 ks);have kd:=λ (l:List Nd) (U:St)=>(xS l).kN U;refine⟨λ m w7 xy Ou Ov C6 Ow w25 ad=>∃ i:Nat,m=ts.length-i/\i<=ts.length/\w7=.box b7 0/\xy=.box iM 0/\Ou=.box vq 0/\Ov=j4 (cr 1 ts)/\C6=j4 (cr 1 us)/\Ow=j4 (cr 1 ys)/\w25=.int .i64 (i:Nat)/\ad.box b7=some [cZ (prog ts).flat]/\ad.box iM=some [cZ (prog us).flat]/\ad.box vq=some [cZ (prog ys).flat],⟨_,0,rfl,by omega,rfl,rfl,rfl,rfl,rfl,rfl,rfl,m7,m10,m20⟩,?_⟩;rintro m w7 xy Ou Ov C6 Ow w25 qg ⟨i,rfl,hi,rfl,rfl,rfl,rfl,rfl,rfl,rfl,m7,m10,m20⟩;rw[zb,ak,bX,ak];refine tn (λ aL=>?_) λ jW=>?_
 . simp only[st]at aL;obtain⟨p1,q1,x1,z1,a1,a2,a3,a4,a5,a6⟩:=s1 i (by omega);refine kD (eL m7 rfl (Fu (is ts) a1 (Fv (kd _ _) a3 rfl (kD (eL m20 rfl (Fu (is ys) a2 (Fv (kd _ _) a4 rfl (Mg a5 ?_))))))));refine Dq rfl m7 rfl (fG rfl rfl (fG rfl rfl (IS rfl (is ts) a1 (Dp rfl (kd _ _) a3 rfl (Dq rfl m20 rfl (fG rfl rfl (fG rfl rfl (IS rfl (is ys) a2 (Dp rfl (kd _ _) a4 rfl (jc rfl (tR a6 (eV ?_))))))))))));rw[dm];exact⟨bD (by omega) (by omega),ts.length-(i+1),by omega,i+1,rfl,by omega,rfl,rfl,rfl,rfl,rfl,rfl,rfl,m7,m10,m20⟩
 refine⟨λ m xy Ou C6 Ow w26 ad=>∃ i:Nat,m=us.length+1-i/\1<=i/\i<=us.length+1/\xy=.box iM 0/\Ou=.box vq 0/\C6=j4 (cr 1 us)/\Ow=j4 (cr 1 ys)/\w26=.int .i64 (i:Nat)/\ad.box iM=some [cZ (prog us).flat]/\ad.box vq=some [cZ (prog ys).flat],⟨_,1,rfl,by omega,by omega,rfl,rfl,rfl,rfl,rfl,m10,m20⟩,?_⟩;rintro m xy Ou C6 Ow w26 td ⟨i,rfl,ZQ,hi,rfl,rfl,rfl,rfl,rfl,m10,m20⟩;rw[zb,ak,lB,ak];refine tn (λ aL=>?_) λ jW=>oA.go (aq.mk (hR _));simp only[st]at aL;obtain⟨p1,q1,x1,z1,a1,a2,a3,a4,a5,a6⟩:=s2 i ZQ (by omega);have eu:(((cr 1 us).length:Nat):Int)-(i:Nat)=((us.length-i:Nat):Int):=by rw[st]; omega
 have ey:(((cr 1 ys).length:Nat):Int)-(i:Nat)=((ys.length-i:Nat):Int):=by rw[st]; omega
 refine kD (eL m10 rfl ?_);rw[aD,DB,eu];refine⟨bD (by omega) (by omega),Fu (is us) a1 (Fv (kd _ _) a3 rfl (kD (eL m20 rfl (uX ?_))))⟩;rw[DB,ey];refine⟨bD (by omega) (by omega),Fu (is ys) a2 (Fv (kd _ _) a4 rfl (Mg a5 ?_))⟩;refine Dq rfl m10 rfl (fG rfl rfl (fG rfl rfl (jc rfl (uX (fG rfl rfl (jc rfl ?_))))));rw[DB,eu];refine⟨bD (by omega) (by omega),IS rfl (is us) a1 (Dp rfl (kd _ _) a3 rfl (Dq rfl m20 rfl (fG rfl rfl (fG rfl rfl (jc rfl (uX (fG rfl rfl (jc rfl ?_))))))))⟩;rw[DB,ey];refine⟨bD (by omega) (by omega),IS rfl (is ys) a2 (Dp rfl (kd _ _) a4 rfl (jc rfl (tR a6 (eV ?_))))⟩;rw[dm];exact⟨bD (by omega) (by omega),us.length+1-(i+1),by omega,i+1,rfl,by omega,by omega,rfl,rfl,rfl,rfl,rfl,m10,m20⟩
end Go.Rip
