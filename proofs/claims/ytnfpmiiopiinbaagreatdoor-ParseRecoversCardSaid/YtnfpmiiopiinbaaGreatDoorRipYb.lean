/- Lemmas for the proof: no conditions. -/
import Derived.Test.YtnfpmiiopiinbaaGreatDoorRipZz
import Derived.Test.YtnfpmiiopiinbaaGreatDoorRipQ
import Derived.Test.YtnfpmiiopiinbaaGreatDoorRipF
import Derived.Test.YtnfpmiiopiinbaaGreatDoorRipYa
import Derived.Test.YtnfpmiiopiinbaaGreatDoorRipS
import Derived.Test.YtnfpmiiopiinbaaGreatDoorRipG
set_option linter.unusedVariables false
set_option linter.unusedSimpArgs false
set_option linter.loopingSimpArgs false
namespace Go.Rip
open Go.Proofs Go.RowKit
theorem uK:∀ (f:Nat) (s:aT) (p:Nat) (l:List Tk) {q:Nat} {e:Int},dE f s p l=.bad q e->e≠0
 | 0,s,p,l,q,e,h=>by simp[dE]at h
 | f+1,s,p,l,q,e,h=>by
   simp only[dE]at h;split at h
   . cases h
   . split at h
     . exact uK f s _ l h
     . split at h
       . exact uK f s _ l h
       . split at h
         . rename_i he; cases h; exact he
         . split at h
           . cases h; omega
           . exact uK f s _ _ h
theorem pj {s:aT} {p:Nat} {e:Int} (h:eA s=.bad p e):e≠0:=by
 unfold eA at h;split at h;split at h
 . rename_i he; cases h; exact he
 . exact uK _ _ _ _ h
theorem x7 (l:List Tk):gx (nv l) l.length (gB l):=by
 unfold nv;split
 . rename_i h; subst h; exact .inl ⟨rfl,rfl,rfl⟩
 . exact .inr ⟨_,rfl⟩
def pr (s:aT) (l:List Tk) (h:eA s=.ok l):Rx:=⟨l,s.length,nv l,x7 l,(oo h).1,(oo h).2⟩
theorem FT {U:St} {R:cM->St->Prop} {s:aT} (hs:s.length<=3000) (h1:∀ p e,eA s=.bad p e->R (.ret (.aQ [.aU,.int .i64 p,.int .i64 e])) U)
 (h2:∀ l (h:eA s=.ok l) r ad,cG U ad->U.live r=none->ad.box r=some (rd (pr s l h) 0)->R (.ret (.aQ [.box r 0,.int .i64 0,.int .i64 0])) ad):ae K 53 [.str s] U R:=by
 refine P7 ?_;unfold R2;refine (sZ s hs).go ?_;cases hl:eA s with
 | bad p e =>
   have he:=pj hl;simp only[p7,bh,List.drop,bl,cP,ak,he,dz,dZ,a8];exact aq.mk (h1 p e hl)
 | ok l =>
   simp only[p7,bh,List.drop,bl,cP,ak,dq,cT,aW,iX];refine Fm.go ?_;refine yn.go ?_;have re:=(x7 l).cA;refine kj [nv l,.int .i64 0,.int .i64 s.length,zi,pb] (by simp[uj,re,ax,zi,pb]) ?_;rw[fY rfl];intro r hr;exact aq.mk (h2 l hl r _ ((cG.refl U).new hr) hr.1 aI)
def fh (s:aT):List Nd×Int×Int:=match eA s with
 | .bad p e=>([],p,e)
 | .ok L=>match gT L s.length (L.length+1) [] 0 with
   | .ok l _=>((dk l).1,0,(dk l).2)
   | .bad j=>([],cU L s.length j,4)
   | .out=>([],0,0)
def rC (p:List Nd×Int×Int):AV:=.aQ [.agg [cZ p.1],.int .i64 p.2.1,.int .i64 p.2.2]
theorem IB:∀ l:List Nd,bG (cb l)=true:=λ l=>by
 induction l with
 | nil=>rfl
 | cons x l ih=>show bG (df x++cb l)=true; simp[df,bG,closed,ih]
theorem pE (l:List Nd):closed (cZ l)=true:=by
 unfold cZ; split
 . rfl
 . exact IB l
theorem sW (n:Nat) (U:St) (l:List Nd):(cb l).map (resolve (n+1) U)=cb l:=by
 induction l with
 | nil=>rfl
 | cons x l ih =>
   show ((df x++cb l).map (resolve (n+1) U))=df x++cb l;rw[List.map_append,ih]; rfl
theorem FG (n:Nat) (U:St) (l:List Nd):resolve (n+2) U (cZ l)=cZ l:=by
 unfold cZ; split
 . rfl
 . show AV.vec l.length .eR ((cb l).map (resolve (n+1) U))=_;rw[sW]
theorem cG.Qu {U bF bI:St} {r:Nat} (h:cG U bF) (k:gR r bF bI) (n:U.live r=none):cG U bI:=λ b x e=>k b x (λ hb=>by subst hb; rw[n]at e; cases e) (h b x e)
theorem B0.cA {az U:St} {v:AV} {l:List Nd} (h:B0 az U v l):v.cA=true/\au v=[v]:=by
 rcases h with ⟨rfl,_⟩|⟨b,rfl,_⟩<;>exact⟨rfl,rfl⟩
theorem B0.set {az bF bI cj:St} {v:AV} {l:List Nd} (h:B0 bF bI v l) (k:cG az bF) (m:∀ b L,bF.live b=none->bI.box b=some L->cj.box b=some L):B0 az cj v l:=by
 rcases h with h|⟨b,h1,h2,h3,h4⟩
 . exact .inl h
 . exact .inr ⟨b,h1,m b _ h3 h2,k.fresh h3,h4⟩
theorem Ma {U:St} {R:cM->St->Prop} (s:aT) (hs:s.length<=3000) (h:∀ ad w,cG U ad->B0 U ad w (fh s).1->R (.ret (.aQ [.agg [w],.int .i64 (fh s).2.1,.int .i64 (fh s).2.2])) ad):ae K 18 [.str s] U R:=by
 refine PY ?_;unfold RT;rw[cK];intro b2 hb2;have m2:(U.new b2 (.box [.ag])).box b2=some [.ag]:=aI;have f2:=hb2.1;have E0:=bC hb2 (x:=.box [.ag]);generalize U.new b2 _=az at *;clear hb2;have fin:∀ (ad:St) (w:AV) (t:List Nd) (p e:Int),w.cA=true/\au w=[w]->cG U (ad.set b2 (.box [w]))->B0 U (ad.set b2 (.box [w])) w t->(∃ x,ad.box b2=some [x])->fh s=(t,p,e) ->
  (aG (some (true,1)) (.box b2 0) (.agg [w]) ad).wp K ad (λ _ U=>bE (some (true,1)) (.box b2 0) U λ r0=>aq R (AV.aQ [r0,.int .i64 p,.int .i64 e]) U) (aa R):=by
  intro ad w t p e hw hE hm ⟨x,hx⟩ hp;rw[cL hx];have e1:ax [x] 0 (au (.agg [w]))=[w]:=rfl;refine⟨⟨rfl,rfl,by simp⟩,?_⟩;rw[e1,oR aX];rw[hp]at h;exact⟨by simp,aq.mk (h _ w hE hm)⟩
 refine FT hs (λ p e hl=>?_) (λ L hL r bF e1 Cm hr=>?_)
 . have he:=pj hl;simp only[bA,bh,List.drop,bl,cP,ak,he,dz,dZ,a8];refine kj [.ag] rfl ?_;exact fin az .ag [] _ _ ⟨rfl,rfl⟩ (E0.set f2) (.inl ⟨rfl,rfl⟩) ⟨_,m2⟩ (by unfold fh; rw[hl])
 . simp only[bA,bh,List.drop,bl,cP,ak,dq,cT,aW];have hXL:(pr s L hL).L=L:=rfl;have hXE:(pr s L hL).E=s.length:=rfl;have sb:fh s=match gT (pr s L hL).L (pr s L hL).E ((pr s L hL).L.length+1) [] 0 with
    | .ok l _=>((dk l).1,0,(dk l).2)
    | .bad j=>([],cU (pr s L hL).L (pr s L hL).E j,4)
    | .out=>([],0,0):=by unfold fh; rw[hL]; rfl
   generalize pr s L hL=X at *;have wN:b2≠r:=λ e=>by rw[<- e]at Cm; exact dA m2 Cm
   refine⟨λ m v2 v5 v8 ad=>∃ (i f:Nat) (acc:List Nd) (ks:List AV),m=X.L.length-i/\v2=.box b2 0/\v5=.box r 0/\i<=X.L.length/\X.L.length-i<f/\gT X.L X.E f acc i=gT X.L X.E (X.L.length+1) [] 0/\acc.length<=i/\c7 true ks acc/\Grow ad v8 87 1 ks.length ks/\(ks=[]->v8=.ag)/\ad.box r=some (rd X i)/\(∃ x,ad.box b2=some [x])/\cG U ad/\(∀ n τ l,v8=.vec n (.own τ) l->U.live τ=none),
    ⟨_,0,X.L.length+1,[],[],rfl,rfl,rfl,by omega,by omega,rfl,by simp,.nil,.inl ⟨rfl,rfl,rfl⟩,λ _=>rfl,hr,⟨_,e1.bf m2⟩,E0.trans e1,λ _ _ _ h=>by cases h⟩,?_⟩
   have Wd:=E0.fresh Cm;clear hr e1 m2 Cm E0;rintro m v2 v5 v8 bI ⟨i,f,acc,ks,rfl,rfl,rfl,hi,hf,hit,Pf,hk,hg,z8,hr,hb2,hE,ho⟩;have mW:=X.small;simp only[bS,aD,aN,cq,nk hr,rd,List.drop,fi,X.tr.len,bX,bJ];cases f with
   | zero=>omega
   | succ f =>
   rw[gT]at hit;refine⟨λ aL=>?_,λ jW=>?_⟩
   . have aL:i<X.L.length:=by omega
     rw[if_pos aL]at hit;refine AP hr hi (λ ns j a cj hp hj dV Ab A=>?_) (λ j cj hp dV hj A=>?_)
     . simp only[bA,bh,List.drop,bl,dr,ak,cT,aW];rw[hp]at hit;have hlen:=Cx hp;rw[fw];refine⟨by omega,?_⟩;rw[dQ (o:=0) (s:=1) rfl];refine⟨⟨Ab.cA.1,by rw[Ab.cA.2]; rfl,by simp[bN]⟩,?_⟩;rw[gw,Ab.cA.2];refine⟨rfl,?_⟩;have Cf:Grow cj v8 87 1 ks.length ks:=by
        rcases hg with h|⟨τ,r1,r2,r3⟩
        . exact .inl h
        . exact .inr ⟨τ,r1,A.ex.tok (eo hr r2).symm r2,r3⟩
       have Es:=hk.le;refine yg (m:=1) (l2:=[a]) Cf rfl rfl (by omega) (by omega) (λ h=>z8 (oQ.1 h)) λ cm v' g1 g2 g3=>?_;obtain⟨kb,_⟩:=n7 Cf g2;refine⟨X.L.length-j,by omega,j,f,acc++ns,ks++[a],rfl,rfl,rfl,hj,by omega,hit,by simp; omega,hk.snoc Ab,by simpa using g1,λ h=>by simp at h,kb A.box,?_,?_,?_⟩
       . obtain⟨x,hx⟩:=hb2;exact⟨x,kb (A.ex.bf wN hx)⟩
       . exact λ b x e=>g2 b x (λ n l hv=>by have:=ho _ _ _ hv; rw[this]at e; cases e) (hE.Qu A.ex Wd b x e)
       . exact λ n τ l hv=>(g3 n τ l hv).elim (λ h=>(hE.Qu A.ex Wd).fresh h) λ ⟨_,_,h⟩=>ho _ _ _ h
     . simp only[bA,bh,List.drop,bl,dr,ak,dZ,a8];rw[hp]at hit;refine kj [.ag] rfl ?_;obtain⟨x,hx⟩:=hb2;refine fin cj .ag [] _ _ ⟨rfl,rfl⟩ ((hE.Qu A.ex Wd).set f2) (.inl ⟨rfl,rfl⟩) ⟨x,A.ex.bf wN hx⟩ ?_;rw[sb,<- hit]; rfl
   . rw[if_neg (by omega)]at hit;have hv:ks=[]/\v8=.ag\/∃ c,v8=.vec ks.length c ks:=by
      rcases hg with ⟨_,h1,h2⟩|⟨τ,r1,_,_⟩
      . exact .inl ⟨h1,h2⟩
      . exact .inr ⟨_,r1⟩
     refine OC hv hk (by omega) λ cj w e3 hm=>?_;simp only[bA,bh,List.drop,bl];rw[cK];intro Ko Bq;obtain⟨x,hx⟩:=hb2;have E3:=hE.trans e3;have f12:=E3.fresh Bq.1;have m2:=((e3.new Bq (x:=.box [.ag])).bf hx);have n2:=Bq.bP (e3.bf hx);have m12:(cj.new Ko (.box [.ag])).box Ko=some [.ag]:=aI;have E4:=E3.new Bq (x:=.box [.ag]);have hm:=hm.set hE (cj:=((cj.new Ko (.box [.ag])).set Ko (.box [w])).set b2 (.box [w])) λ b L h1 h2=>by
      have n1:b≠b2:=λ e=>dA hx (e▸h1);have n3:=Bq.bP h2;rw[aM n1,aM n3];exact (bC Bq (x:=.box [.ag])).bf h2
     generalize cj.new Ko (.box [.ag])=cm at *;rw[cL m12];have e1:ax [AV.ag] 0 (au (.agg [w]))=[w]:=rfl;refine⟨⟨rfl,rfl,by simp⟩,?_⟩;rw[e1,mR aX];refine⟨by simp,?_⟩;have E5:=E4.set f12 (x:=.box [w]);exact fin _ w (dk acc).1 0 (dk acc).2 hm.cA (E5.set f2) hm ⟨x,by rw[aM n2]; exact m2⟩ (by rw[sb,<- hit])
theorem Ay (s:aT) (hs:s.length<=3000):Pure K 18 [.str s] (rC (fh s)):=by
 refine Pure.LV rfl (by simp[rC,closed,bG,pE]) λ R hR=>Ma s hs λ ad w _ hm=>hR _ _ ?_;show AV.aQ [.agg [resolve 3 ad w],_,_]=rC (fh s);rcases hm with ⟨rfl,h⟩|⟨b,rfl,hb,_,h0⟩
 . rw[rC,h]; rfl
 . rw[show resolve 3 ad (.ms b 0 (fh s).1.length 6 43)=.vec (fh s).1.length .eR ((cb (fh s).1).map (resolve 2 ad)) by simp[resolve,hb],sW,rC,cZ,if_neg h0];rfl
end Go.Rip
namespace Go.Rip
open Go.Proofs Go.RowKit
def gQ (L:List Tk):Nat->Nat->Nat
 | 0,p=>p
 | f+1,p=>if p<L.length/\dW L p=false then gQ L f (p+1) else p
def lP (L:List Tk) (E:Nat):Nat->List Nd->List Int->Nat->List Nd×List Int
 | 0,acc,fl,_=>(acc,fl)
 | f+1,acc,fl,i=>if i<L.length then match eJ L E (fuel L) i with
    | .ok a j=>lP L E f (acc++a) fl j
    | .bad j=>lP L E f acc (fl++[cU L E j]) (gQ L L.length (max j (i+1)))
    | .out=>(acc,fl)
   else (acc,fl)
def fP (s:aT):List Nd×List Int×Int:=match eA s with
 | .bad _ e=>([],[],e)
 | .ok L=>match lP L s.length (L.length+1) [] [] 0 with
   | (acc,fl)=>if (dk acc).2=0 then ((dk acc).1,fl,0) else ([],[],(dk acc).2)
def rY (l:List Int):List AV:=l.flatMap λ a=>[.int .i64 a,.int .i64 4]
def yo (l:List Int):AV:=if l=[] then .ag else .vec l.length .eR (rY l)
def rI (p:List Nd×List Int×Int):AV:=.aQ [.agg [cZ p.1],yo p.2.1,.int .i64 p.2.2]
theorem Iz (l:List Int):bG (rY l)=true:=by
 induction l with
 | nil=>rfl
 | cons x l ih=>show bG ([.int .i64 x,.int .i64 4]++rY l)=true; simp[bG,closed,ih]
theorem GP (n:Nat) (ad:St) (l:List Int):(rY l).map (resolve (n+1) ad)=rY l:=by
 induction l with
 | nil=>rfl
 | cons x l ih =>
   show ((([AV.int .i64 x,AV.int .i64 4]:List AV)++rY l).map (resolve (n+1) ad))=[AV.int .i64 x,AV.int .i64 4]++rY l;rw[List.map_append,ih]; rfl
theorem IA (l:List Int):closed (yo l)=true:=by
 unfold yo; split
 . rfl
 . exact Iz l
theorem GQ {U ad:St} {v:AV} {l:List Int} (n:Nat) (h:Grow U v 78 2 l.length (rY l)) (h0:l=[]->v=.ag):resolve (n+2) ad v=yo l:=by
 unfold yo;split
 . rename_i e; rw[h0 e]; rfl
 . rename_i e;rcases h with ⟨h1,_,_⟩|⟨τ,rfl,_,_⟩
   . exact absurd (oQ.1 h1) e
   . show AV.vec l.length .eR ((rY l).map (resolve (n+1) ad))=_;rw[GP]
theorem Grow.eU {r:Nat} {U ad:St} {v:AV} {e sz n:Nat} {l L L':List AV} (h:Grow U v e sz n l) (hr:U.box r=some L) (A:eP r L' U ad):Grow ad v e sz n l:=by
 rcases h with h|⟨τ,r1,r2,r3⟩
 . exact .inl h
 . exact .inr ⟨τ,r1,A.ex.tok (eo hr r2).symm r2,r3⟩
theorem Grow.other {U ad:St} {v w:AV} {e sz n e2 sz2 n2:Nat} {l l2:List AV} (h:Grow U v e sz n l) (cv:e≠e2) (k:Grow U w e2 sz2 n2 l2) (e1:∀ b x,(∀ n l,w≠.vec n (.own b) l)->U.live b=some x->ad.live b=some x):Grow ad v e sz n l:=by
 rcases h with h|⟨τ,r1,r2,r3⟩
 . exact .inl h
 . refine .inr ⟨τ,r1,?_,r3⟩;cases el:U.live τ with
   | none=>exact absurd el (Ok r2)
   | some x =>
     have:=e1 τ x (λ n' l' hv=>by
      rcases k with ⟨_,_,k⟩|⟨sF,k,k2,_⟩
      . rw[k]at hv; cases hv
      . rw[k]at hv; cases hv;rw[r2]at k2; cases k2; exact cv rfl) el
     rw[pI (this.trans el.symm)]; exact r2
theorem xk (s:aT) (hs:s.length<=3000):Pure K 20 [.str s] (rI (fP s)):=by
 refine Pure.LV rfl (by simp[rI,closed,bG,pE,IA]) λ R hR=>?_;refine PZ ?_;unfold RU;rw[cK];intro b2 hb2;have m2:((bK ⟨.e,0⟩).new b2 (.box [.ag])).box b2=some [.ag]:=aI;generalize (bK _).new b2 _=az at *;clear hb2;have fin:∀ (ad:St) (t:List Nd) (fl:AV) (e:Int) (p:List Nd×List Int×Int),(∃ x,ad.box b2=some [x])->fP s=p->p.1=t->p.2.2=e->(∀ lh,resolve 4 lh fl=yo p.2.1) ->
  (aG (some (true,1)) (.box b2 0) (.agg [cZ t]) ad).wp K ad (λ _ U=>bE (some (true,1)) (.box b2 0) U λ r0=>aq R (AV.aQ [r0,fl,.int .i64 e]) U) (aa R):=by
  intro ad t fl e p ⟨x,hx⟩ hp h1 h2 h3;subst h1 h2;rw[cL hx];refine⟨⟨rfl,rfl,by simp⟩,?_⟩;rw[oR aX];refine⟨by simp[ax],aq.mk (hR _ _ ?_)⟩;rw[hp];simp only[ax,B6,List.take,List.drop,iK,jn,lM,sU,rI];show AV.aQ [.agg [resolve 3 _ (cZ p.1)],resolve 4 _ fl,.int .i64 p.2.2]=_;rw[FG 1,h3]
 refine FT hs (λ p e hl=>?_) (λ L hL r bF e1 Cm hr=>?_)
 . have he:=pj hl;simp only[bA,bh,List.drop,bl,cP,ak,he,dz,dZ,a8];refine kj [.ag] rfl ?_;exact fin az [] _ _ ([],[],e) ⟨_,m2⟩ (by unfold fP; rw[hl]) rfl rfl (λ _=>rfl)
 . simp only[bA,bh,List.drop,bl,cP,ak,dq,cT,aW];have sb:fP s=match lP (pr s L hL).L (pr s L hL).E ((pr s L hL).L.length+1) [] [] 0 with
    | (acc,fl)=>if (dk acc).2=0 then ((dk acc).1,fl,0) else ([],[],(dk acc).2):=by unfold fP; rw[hL]; rfl
   generalize pr s L hL=X at *;have wN:b2≠r:=λ e=>by rw[<- e]at Cm; exact dA m2 Cm
   have mW:=X.small;refine⟨λ m v2 v5 v8 v9 ad=>∃ (i f:Nat) (acc:List Nd) (ks:List AV) (fl:List Int),m=X.L.length-i/\v2=.box b2 0/\v5=.box r 0/\i<=X.L.length/\X.L.length-i<f/\lP X.L X.E f acc fl i=lP X.L X.E (X.L.length+1) [] [] 0/\acc.length<=i/\fl.length<=i/\c7 true ks acc/\Grow ad v8 87 1 ks.length ks/\(ks=[]->v8=.ag)/\Grow ad v9 78 2 fl.length (rY fl)/\(fl=[]->v9=.ag)/\ad.box r=some (rd X i)/\(∃ x,ad.box b2=some [x]),
    ⟨_,0,X.L.length+1,[],[],[],rfl,rfl,rfl,by omega,by omega,rfl,by simp,by simp,.nil,.inl ⟨rfl,rfl,rfl⟩,λ _=>rfl,.inl ⟨rfl,rfl,rfl⟩,λ _=>rfl,hr,_,e1.bf m2⟩,?_⟩
   clear hr e1 m2 Cm;rintro m v2 v5 v8 v9 bI ⟨i,f,acc,ks,fl,rfl,rfl,rfl,hi,hf,hit,Pf,ado,hk,hg,z8,hh,VL,hr,hb2⟩;simp only[bS,aD,aN,cq,nk hr,rd,List.drop,fi,X.tr.len,bX,bJ];cases f with
   | zero=>omega
   | succ f =>
   rw[lP]at hit;refine⟨λ aL=>?_,λ jW=>?_⟩
   . have aL:i<X.L.length:=by omega
     rw[if_pos aL]at hit;simp only[bS,ak,aN,cq];rw[eO hr];simp only[rd,List.drop,bl];have Es:=hk.le;refine AP hr hi (λ ns j a cj hp hj dV Ab A=>?_) (λ j cj hp dV hj A=>?_)
     . simp only[bA,bh,List.drop,bl,a8];rw[hp]at hit;have hlen:=Cx hp;rw[fw];refine⟨by omega,?_⟩;rw[dQ (o:=0) (s:=1) rfl];refine⟨⟨Ab.cA.1,by rw[Ab.cA.2]; rfl,by simp[bN]⟩,?_⟩;rw[gw,Ab.cA.2];refine⟨rfl,?_⟩;have Cf:=hg.eU hr A;have K3:=hh.eU hr A;refine yg (m:=1) (l2:=[a]) Cf rfl rfl (by omega) (by omega) (λ h=>z8 (oQ.1 h)) λ cm v' g1 g2 g3=>?_;obtain⟨kb,_⟩:=n7 Cf g2;refine⟨X.L.length-j,by omega,j,f,acc++ns,ks++[a],fl,rfl,rfl,rfl,hj,by omega,hit,by simp; omega,by omega,hk.snoc Ab,by simpa using g1,λ h=>by simp at h,K3.other (by omega) Cf g2,VL,kb A.box,?_⟩;obtain⟨x,hx⟩:=hb2;exact⟨x,kb (A.ex.bf wN hx)⟩
     . simp only[bA,bh,List.drop,bl,aW];rw[hp]at hit;simp only at hit;refine kj [.int .i64 (cU X.L X.E j),.int .i64 4] rfl ?_;rw[fw];refine⟨by omega,?_⟩;rw[dQ (o:=0) (s:=2) rfl];refine⟨⟨rfl,rfl,by simp[bN]⟩,?_⟩;rw[gw];refine⟨rfl,?_⟩;have Cf:=hg.eU hr A;have K3:=hh.eU hr A;refine yg (m:=1) (l2:=[.int .i64 (cU X.L X.E j),.int .i64 4]) K3 rfl rfl (by omega) (by omega) (λ h=>VL (oQ.1 h)) λ cm v' g1 g2 g3=>?_;obtain⟨kb,_⟩:=n7 K3 g2;have EE:=kb A.box;have ZM:=Cf.other (by omega) K3 g2;rw[eO EE];simp only[rd,List.drop,bl,dm];refine⟨bD (by omega) (by omega),?_⟩;simp only[Tc,ak];rw[cL EE];refine⟨⟨rfl,rfl,by simp[rd]⟩,?_⟩;have Jb:(if (i:Int)+1 > (j:Nat) then (i:Int)+1 else (j:Nat))=((max j (i+1):Nat):Int):=by
        split<;>omega
       rw[Jb];have Wc:(cm.set r (.box (ax (rd X j) 1 (au (.int .i64 ((max j (i+1):Nat):Int)))))).box r=some (rd X (max j (i+1))):=by rw[aX]; simp[ax,rd]
       have A5:eP r (rd X (max j (i+1))) cm (cm.set r (.box (ax (rd X j) 1 (au (.int .i64 ((max j (i+1):Nat):Int)))))):=⟨Wc,(gR.refl _ _).set (.inr rfl)⟩;have ZN:=ZM.eU EE A5;have ZP:Grow (cm.set r (.box (ax (rd X j) 1 (au (.int .i64 ((max j (i+1):Nat):Int)))))) v' 78 2 (fl++[cU X.L X.E j]).length (rY (fl++[cU X.L X.E j])):=by
        have:Grow cm v' 78 2 (fl++[cU X.L X.E j]).length (rY (fl++[cU X.L X.E j])):=by simpa [rY] using g1
        exact this.eU EE A5
       obtain⟨x,hx⟩:=hb2;have od:=A5.ex.bf wN (kb (A.ex.bf wN hx));generalize cm.set r (.box (ax (rd X j) 1 (au (.int .i64 ((max j (i+1):Nat):Int)))))=cY at *;have Ch:i+1<=max j (i+1):=by omega
       have VY:max j (i+1)<=X.L.length:=by omega
       generalize max j (i+1)=q0 at *;clear Jb g1 g2 g3 kb EE ZM A5;refine⟨λ m' w2 w5 w8 w9 ad=>∃ q fq,m'=X.L.length-q/\w2=.box b2 0/\w5=.box r 0/\w8=v8/\w9=v'/\i<q/\q<=X.L.length/\X.L.length-q<=fq/\gQ X.L fq q=gQ X.L X.L.length q0/\Grow ad v8 87 1 ks.length ks/\Grow ad v' 78 2 (fl++[cU X.L X.E j]).length (rY (fl++[cU X.L X.E j]))/\ad.box r=some (rd X q)/\(∃ x,ad.box b2=some [x]),
        ⟨_,q0,X.L.length,rfl,rfl,rfl,rfl,rfl,by omega,VY,by omega,rfl,ZN,ZP,Wc,_,od⟩,?_⟩
       clear ZN ZP Wc od;rintro m' w2 w5 w8 w9 kP ⟨q,fq,rfl,rfl,rfl,rfl,rfl,hiq,hq,ZK,RA,VK,VM,Cl,o6⟩;simp only[bS,aD,aN,cq,nk Cl,rd,List.drop,fi,X.tr.len,bX,bj,aP,mN]
       by_cases Hy:q<X.L.length
       . have Pr:(q:Int)<X.L.length:=by omega
         obtain⟨t,ht⟩:∃ t,X.L[q]?=some t:=⟨X.L[q],by simp[Hy]⟩;obtain⟨c,hc,oe⟩:=X.tr.at (sz:=3) (e:=51) Hy;obtain⟨rest,hd⟩:=tV ht;have Hl:=yj (some t);rw[<- ht,HY]at Hl;simp only[Pr,dq,ib,cn,aD,jq,bS,aN,cq,nk Cl,rd,List.drop,fi,oe,gP,hd,H6];have og:(jK t++rest).take 3=ox (X.L[q]?):=by rw[ht]; simp[jK,ox]
         rw[og];refine⟨by simp,by simp[jK],_,Hl,?_⟩;cases fq with
         | zero=>omega
         | succ fq =>
         cases VN:dW X.L q with
         | false =>
           have YZ:gQ X.L (fq+1) q=gQ X.L fq (q+1):=by rw[gQ,if_pos ⟨Hy,VN⟩]
           rw[YZ]at RA;simp only[jq,dr,aD,dZ,aO,if_true,a8,bS,ak,aN,cq];rw[eO Cl];simp only[rd,List.drop,bl,dm];refine⟨bD (by omega) (by omega),?_⟩;rw[cL Cl];refine⟨⟨rfl,rfl,by simp[rd]⟩,?_⟩;have Z4:(kP.set r (.box (ax (rd X q) 1 (au (.int .i64 ((q:Int)+1)))))).box r=some (rd X (q+1)):=by rw[aX]; simp[ax,rd]
           have A7:eP r (rd X (q+1)) kP (kP.set r (.box (ax (rd X q) 1 (au (.int .i64 ((q:Int)+1)))))):=⟨Z4,(gR.refl _ _).set (.inr rfl)⟩;obtain⟨y,hy⟩:=o6;exact⟨X.L.length-(q+1),by omega,q+1,fq,rfl,rfl,rfl,rfl,rfl,by omega,Hy,by omega,RA,VK.eU Cl A7,VM.eU Cl A7,Z4,y,A7.ex.bf wN hy⟩
         | true =>
           have Jf:gQ X.L (fq+1) q=q:=by rw[gQ,if_neg (by rw[VN]; simp)]
           simp only[jq,dr,aD,cT,aO,if_true,aW];exact⟨X.L.length-q,by omega,q,f,acc,ks,fl++[cU X.L X.E j],rfl,rfl,rfl,hq,by omega,by rw[<- hit,<- RA,Jf],by omega,by simp; omega,hk,VK,z8,VM,λ h=>by simp at h,Cl,o6⟩
       . have Pr:¬ (q:Int)<X.L.length:=by omega
         have Jf:gQ X.L fq q=q:=by
          cases fq with
          | zero=>rfl
          | succ fq=>rw[gQ,if_neg (λ h=>Hy h.1)]
         simp only[Pr,dz,show (false==true)=false from rfl,cz,aO,bQ,if_false,aD,aW];exact⟨X.L.length-q,by omega,q,f,acc,ks,fl++[cU X.L X.E j],rfl,rfl,rfl,hq,by omega,by rw[<- hit,<- RA,Jf],by omega,by simp; omega,hk,VK,z8,VM,λ h=>by simp at h,Cl,o6⟩
   . rw[if_neg (by omega)]at hit;have hv:ks=[]/\v8=.ag\/∃ c,v8=.vec ks.length c ks:=by
      rcases hg with ⟨_,h1,h2⟩|⟨τ,r1,_,_⟩
      . exact .inl ⟨h1,h2⟩
      . exact .inr ⟨_,r1⟩
     refine QV hv hk (by omega) λ cj e3=>?_;simp only[bA,bh,List.drop,bl];rw[cK];intro U1 Vu;obtain⟨x,hx⟩:=hb2;have m2:=((e3.new Vu (x:=.box [.ag])).bf hx);have n2:=Vu.bP (e3.bf hx);have m14:(cj.new U1 (.box [.ag])).box U1=some [.ag]:=aI;generalize cj.new U1 (.box [.ag])=cm at *;rw[cL m14];refine⟨⟨rfl,rfl,by simp⟩,?_⟩;rw[<- hit]at sb;simp only at sb;simp only[cP,ak]
     by_cases he:(dk acc).2=0
     . simp only[he,dq,cT,aW];rw[if_pos he]at sb;rw[mR aX];refine⟨by simp[ax],?_⟩;have:(List.take 1 (List.drop 0 (ax [AV.ag] 0 (au (.agg [cZ (dk acc).1])))))=[cZ (dk acc).1]:=by simp[ax]
       rw[this];exact fin _ (dk acc).1 v9 0 _ ⟨x,by rw[aM n2]; exact m2⟩ sb rfl rfl λ lh=>GQ 2 hh VL
     . simp only[he,dz,dZ,a8];rw[if_neg he]at sb;refine kj [.ag] rfl ?_;exact fin _ [] _ (dk acc).2 _ ⟨x,by rw[aM n2]; exact m2⟩ sb rfl rfl λ lh=>rfl
end Go.Rip
namespace Go.Rip
open Go.Proofs Go.RowKit
structure Sl (v:AV) (l:List Nd):Prop where
 s:gx v l.length (cb l)
 c:closed v=true
theorem xS (l:List Nd):Sl (cZ l) l:=by
 refine⟨?_,pE l⟩;unfold cZ;split
 . rename_i h; subst h; exact .inl ⟨rfl,rfl,rfl⟩
 . exact .inr ⟨_,rfl⟩
theorem Sl.kN {v:AV} {l:List Nd} (h:Sl v l) (U:St):mY U v l:=h.s.aa2
theorem Sl.cl {v:AV} {l:List Nd} (h:Sl v l):closed (.agg [v])=true:=by simp[closed,bG,h.c]
theorem QS {b o k:Nat} {U:St} {K':AV->St->Prop} {Kp:AV->St->Prop} (h:K' (.box b (o+k)) U):(ah (some k) (.box b o)).wp K U K' Kp:=h
theorem A8 {b:Nat} {v:AV} {U τ:St} {K':AV->St->Prop} {Kp:AV->St->Prop} (hb:U.box b=some [v]) (h:K' (.agg [v]) τ):(ar (some (true,1)) (.box b 0) U).wp K τ K' Kp:=by
 rw[mR hb]; exact⟨by simp,h⟩
theorem XM {mu:Bool} {e sz m:Nat} {y:AV} {l2:List AV} {U:St} {K':AV->St->Prop} {Kp:AV->St->Prop} (hy:qo U y=some (m,l2)) (hl:l2.length=m*sz) (hb:m<=4294967296)
 (h0:m=0->K' .ag U) (h1:m≠0->mu=true->∀ b,U.cV b->K' (.ms b 0 m sz e) (U.new b (.box l2))) (h2:m≠0->mu=false->∀ b,U.cV b->K' (.vec m (.own b) l2) (U.new b (.tok ⟨m,e,sz⟩))):(ek (some (e,sz)) mu .ag y U).wp K U K' Kp:=by
 simp only[ek,hy,wp_cond];refine⟨hl,?_⟩
 by_cases hm:m=0
 . rw[if_pos hm,ak]; exact h0 hm
 . rw[if_neg hm,wp_cond];refine⟨hb,?_⟩;cases mu with
   | true=>exact λ b dR=>h1 hm rfl b dR
   | false=>exact λ b dR=>h2 hm rfl b dR
theorem GS {n b k z e:Nat} {U:St} {L:List AV} (h:U.box b=some L):resolve (n+1) U (.ms b 0 k z e)=.vec k .eR (L.map (resolve n U)):=by
 rw[resolve,h]; rfl
theorem GR {n b:Nat} {U:St} {l:List Nd} (h:U.box b=some (cb l)) (h0:l≠[]):resolve (n+2) U (.ms b 0 l.length 6 43)=cZ l:=by
 rw[GS h,sW,cZ,if_neg h0]
theorem KA {v:AV} {l:List Nd} (hv:Sl v l) (hl:l.length<=100000):Pure K 26 [.agg [v]] (.agg [cZ l]):=by
 refine Pure.LV (by simp[bG,hv.cl]) (xS l).cl λ R hR=>?_;refine P1 ?_;unfold RW;rw[fY rfl];intro b1 hb1;have m1:((bK ⟨.e,0⟩).new b1 (.box (au (.agg [v])))).box b1=some [v]:=aI;generalize (bK _).new b1 _=az at *;rw[cK];intro b2 hb2;have m2:(az.new b2 (.box [AV.ag])).box b2=some [.ag]:=aI;have m1:=(bC hb2 (x:=.box [AV.ag])).bf m1;generalize az.new b2 (.box [AV.ag])=bF at *;refine QS (gq m1 rfl ?_);refine XM (hv.kN _).src (nH l▸by omega) (by omega) (λ h0=>?_) (λ h1 _ b hb=>?_) (λ _ h=>by cases h)
 . have:l=[]:=oQ.1 h0;subst this;refine kj [.ag] rfl ?_;rw[cL m2];refine⟨⟨rfl,rfl,by simp⟩,?_⟩;rw[oR aX];exact⟨by simp[ax],aq.mk (hR _ _ rfl)⟩
 . have cv:=hb.bP m2;refine kj [.ms b 0 l.length 6 43] rfl ?_;rw[cL (show (bF.new b (.box (cb l))).box b2=some _ by rw[mF cv]; exact m2)];refine⟨⟨rfl,rfl,by simp⟩,?_⟩;rw[oR aX];refine⟨by simp[ax],aq.mk (hR _ _ ?_)⟩;have Hm:((bF.new b (.box (cb l))).set b2 (.box (ax [AV.ag] 0 (au (.agg [.ms b 0 l.length 6 43]))))).box b=some (cb l):=by
    rw[aM cv.symm,aI]
   generalize (bF.new b (.box (cb l))).set b2 _=bI at *;show AV.agg [resolve 4 bI (.ms b 0 l.length 6 43)]=_;have:l≠[]:=λ e=>h1 (by rw[e]; rfl);rw[GR Hm this]
noncomputable def mZ (l:List Nd) (p:Int):Int:=if fC l≠0 then fC l else if p<0\/(l.length:Int)<=p then 3 else 0
theorem Kl {l:List Nd} {p:Int} (h:mZ l p=0):∃ (n:Nat) (t s:Tre),p=n/\l=t.flat/\t.kind=1/\t.ok=true/\n<l.length/\fo l n s:=by
 unfold mZ at h;split at h
 . rename_i hc; exact absurd h hc
 . rename_i hc;split at h
   . cases h
   . rename_i hp;have hc:fC l=0:=Classical.not_not.1 hc;have h9:¬ 900<l.length:=λ h=>by unfold fC at hc; rw[if_pos h]at hc; cases hc
     have:∃ t:Tre,l=t.flat/\t.kind=1/\t.ok=true:=Classical.not_not.1 λ h=>by rw[um h9 h]at hc; cases hc
     obtain⟨t,rfl,h1,h2⟩:=this;obtain⟨⟨s,_,hs,_⟩,_⟩:=place t (i:=p.toNat) (by omega);exact⟨p.toNat,t,s,by omega,rfl,h1,h2,by omega,hs⟩
end Go.Rip
namespace Go.Rip
open Go.Proofs Go.RowKit
theorem Gn (ks:List Nat):bG (ia ks)=true:=by
 induction ks with
 | nil=>rfl
 | cons k ks ih=>show bG (.int .i64 (k:Nat)::ia ks)=true; simp[bG,closed,ih]
theorem FF (n:Nat) (U:St) (ks:List Nat):(ia ks).map (resolve (n+1) U)=ia ks:=by
 induction ks with
 | nil=>rfl
 | cons k ks ih=>show .int .i64 (k:Nat)::(ia ks).map (resolve (n+1) U)=_; rw[ih]; rfl
def j4 (ks:List Nat):AV:=if ks=[] then .ag else .vec ks.length .eR (ia ks)
theorem D1 (ks:List Nat):closed (j4 ks)=true:=by
 unfold j4; split
 . rfl
 . exact Gn ks
theorem EU (ks:List Nat):gx (j4 ks) ks.length (ia ks):=by
 unfold j4; split
 . rename_i h; subst h; exact .inl ⟨rfl,rfl,rfl⟩
 . exact .inr ⟨_,rfl⟩
theorem gC.ints {az U:St} {v:AV} {ks:List Nat} (h:gC az U v 3 1 ks.length (ia ks)) (n:Nat) (τ:St):resolve (n+2) τ v=j4 ks:=by
 unfold j4;split
 . rename_i e; subst e; rw[h.z rfl]; rfl
 . rename_i e;rcases h.g with ⟨h1,_,_⟩|⟨t,rfl,_,_⟩
   . exact absurd (oQ.1 h1) e
   . show AV.vec ks.length .eR ((ia ks).map (resolve (n+1) τ))=_;rw[FF]
def Dv (l:List Nd) (p:Nat):List Nat:=eZ l ((p:Int)+eN l p) l.length (p+1)
theorem CX {l:List Nd} {n:Nat} {x:Nd} (h:l[n]?=some x):eN l n=x.size.toNat:=by unfold eN; rw[h]; rfl
theorem Lx {l:List Nd} {n:Nat} {s:Tre} (h:fo l n s):Dv l n=cr (n+1) s.kids:=by
 obtain⟨x,hx,_,hs,_⟩:=h.pP;unfold Dv;rw[CX hx,show (x.size.toNat:Int)=s.flat.length by omega];exact y9 h
noncomputable def sf (l:List Nd) (p:Int):List Nat:=if mZ l p=0 then Dv l p.toNat else []
def upF (l:List Nd) (p:Nat):Nat->Nat
 | 0=>0
 | i+1=>if i+1+eN l (i+1)<=p then upF l p i else i+1
theorem IP {t:Tre}:zH t.flat:=((CY t.flat).2 ⟨t,rfl⟩).1
end Go.Rip
namespace Go.Rip
open Go.Proofs Go.RowKit
theorem QU {a b n:Int} {U:St} {K':AV->St->Prop} {Kp:AV->St->Prop} (h:K' (.bool (decide (a<=n/\n<=b))) U):ae K 122 [.int .i64 a,.int .i64 b,.int .i64 n] U (aj K' Kp):=(nJ a b n).go h
theorem DT {l:List Nd} {p:Int} (h:fC l≠0):mZ l p=fC l:=by unfold mZ; rw[if_pos h]
theorem OO {l:List Nd} {p:Int} (h:fC l=0) (hp:¬ (0<=p/\p<=(l.length:Int)-1)):mZ l p=3:=by unfold mZ; rw[if_neg (by simp[h]),if_pos (by omega)]
theorem G2 {l:List Nd} {p:Int} (h:fC l=0) (hp:0<=p/\p<=(l.length:Int)-1):mZ l p=0:=by unfold mZ; rw[if_neg (by simp[h]),if_neg (by omega)]
def QX (R:cM->St->Prop) (z:AV):cM->St->Prop:=λ r U=>∃ x e,r=.ret (.aQ [x,.int .i64 e])/\(e≠0->R (.ret (.aQ [z,.int .i64 e])) U)/\(e=0->R (.ret (.aQ [x,.int .i64 0])) U)
section
variable {U:St} {R:cM->St->Prop} {v:AV} {l:List Nd} {p:Int} {g:FuncId} {fs cs:List AV}
theorem XR (hg:dG K.P g=true) {a:List AV} {K':AV->St->Prop} {Kp:AV->St->Prop}:(gi K.P (.func (.func g) fs cs) a).wp K U K' Kp=ae K g (fs++a++cs) U (aj K' Kp):=by
 simp only[gi,hg,if_true,jr]
theorem SS {z:AV} {ad:St} {a:List AV} (h:ae K g a ad (QX R z)) :
 ae K g a ad (aj (λ et U=>(aK et 0).wp K U (λ v30 U=>(aK et 1).wp K U (λ v31 U=>(aw .neq (BT.mk false false false none false) true v31 (AV.int .i64 0)).wp K U (λ fU U =>
  aA fU (aq R (AV.aQ [z,v31]) U) (aq R (AV.aQ [v30,(AV.int .i64 0)]) U)) (aa R)) (aa R)) (aa R)) (aa R)):=by
 refine h.mono λ r τ hr=>?_;obtain⟨x,e,rfl,h1,h2⟩:=hr;simp only[bA,bh,List.drop,bl,cP,ak]
 by_cases he:e=0
 . simp only[he,dq,cT];exact eV (aq.mk (h2 he))
 . simp only[he,dz,dZ];exact ez (aq.mk (h1 he))
theorem Xp (hv:Sl v l) (hl:l.length<=10000) (sc:∀ x∈l,x.text.length<=3000) (hg:dG K.P g=true)
 (h0:mZ l p≠0->∀ ad,cG U ad->R (.ret (.aQ [.ag,.int .i64 (mZ l p)])) ad)
 (h1:mZ l p=0->∀ ad,cG U ad->ae K g (fs++[.agg [v]]++cs) ad (QX R .ag)):ae K 78 [.agg [v],.int .i64 p,.func (.func g) fs cs] U R:=by
 refine Qh ?_;unfold Sc;rw[fY rfl];intro b1 hb1;have m1:(U.new b1 (.box (au (.agg [v])))).box b1=some [v]:=aI;have e1:=bC hb1 (x:=.box (au (.agg [v])));generalize U.new b1 _=bF at *;refine A8 m1 ((Iy hv.s hv.c hl sc).go ?_);rw[cP,ak]
 by_cases hc:fC l=0
 rotate_left
 . simp only[hc,dz,dZ];refine ez (aq.mk ?_);rw[<- DT (p:=p) hc];exact h0 (by rw[DT hc]; exact hc) _ e1
 simp only[hc,dq,cT];refine eV (QS (gq m1 rfl ?_));rw[hv.s.len,ak,jP,fx,wp_cond,ak];refine⟨bD (by omega) (by omega),QU ?_⟩;simp only[dr,ak]
 by_cases hp:0<=p/\p<=(l.length:Int)-1
 rotate_left
 . simp only[hp,dz,dZ];refine ez (aq.mk ?_);have:=OO hc hp;rw[<- this];exact h0 (by rw[this]; decide) _ e1
 simp only[hp,and_self,dq,cT];refine eV (A8 m1 (kj [v] rfl ?_));rw[XR hg];exact SS (h1 (G2 hc hp) _ e1)
end
theorem ID {v:AV} {l:List Nd} {n:Nat} {en:Int} {bn be bt:Nat} {U:St} {R:cM->St->Prop} (hv:gx v l.length (cb l)) (hn:n<l.length) (hl:l.length<=10000) (Q9:en<=l.length) (hsz:∀ (i:Nat) (x:Nd),l[i]?=some x->x.size<=100000)
 (mn:U.box bn=some [.int .i64 (n:Nat)]) (me:U.box be=some [.int .i64 en]) (mt:U.box bt=some [v])
 (h:∀ ad v',gC (bK ⟨.e,0⟩) ad v' 3 1 (eZ l en l.length (n+1)).length (ia (eZ l en l.length (n+1)))->R (.ret v') ad):ae K 80 [.func (.func 155) [] [.box bn 0,.box be 0,.box bt 0]] U R:=by
 refine Qj ?_;unfold Se;refine M7 ?_;unfold M6;rw[fY rfl];intro b2 hb2;have m2:(U.new b2 (.box (au .ag))).box b2=some [.ag]:=aI;have V5:=hb2.bP mn;have heb:=hb2.bP me;have htb:=hb2.bP mt;have mn:=(bC hb2 (x:=.box (au .ag))).bf mn;have me:=(bC hb2 (x:=.box (au .ag))).bf me;have mt:=(bC hb2 (x:=.box (au .ag))).bf mt;generalize U.new b2 (.box (au .ag))=bF at *;refine uZ (λ ks ad=>(ad.box bn=some [.int .i64 (n:Nat)]/\ad.box be=some [.int .i64 en]/\ad.box bt=some [v])/\∃ vk,ad.box b2=some [vk]/\gC (bK ⟨.e,0⟩) ad vk 3 1 ks.length (ia ks)) (λ _=>False) hv hn (by omega) Q9
  (λ ks ad hI=>hI.1) (λ ks ad o L L' hI ho=>?_) (λ ks ad o L hI ho=>?_) (λ ad o L L' hJ ho=>hJ) (λ ks kN y ad o L1 q hI hy aL qk Z1 Es sP hL V8 Z7=>?_) (λ ks ad o L kM hI hL=>?_) (λ ad o L hJ hL=>hJ.elim) ⟨⟨mn,me,mt⟩,_,m2,gC.nil (zR _)⟩
 . obtain⟨⟨h1,h2,h3⟩,vk,kr,mV⟩:=hI;exact⟨⟨by rw[aM (bY h1 ho)]; exact h1,by rw[aM (bY h2 ho)]; exact h2,by rw[aM (bY h3 ho)]; exact h3⟩,vk,by rw[aM (bY kr ho)]; exact kr,mV.loop ho (zR _)⟩
 . obtain⟨⟨h1,h2,h3⟩,vk,kr,mV⟩:=hI;have e:=bC ho (x:=.loop L);exact⟨⟨e.bf h1,e.bf h2,e.bf h3⟩,vk,e.bf kr,mV.mono e⟩
 . obtain⟨⟨h1,h2,h3⟩,vk,kr,mV⟩:=hI;refine gq kr rfl ?_;refine Zg rfl rfl ?_;refine Oy mV (m:=1) (l2:=[.int .i64 (kN:Nat)]) rfl rfl (by omega) (by omega) λ bI v' g2 k2=>?_;have lU:∀ b z,ad.box b=some z->bI.box b=some z:=λ b z hb=>by
    cases vw:ad.live b with
    | none=>exact absurd vw (dA hb)
    | some w =>
      have:=k2 b w (λ n' l' sd=>by
       rcases mV.g with ⟨_,_,h3⟩|⟨τ,r1,r2,_⟩
       . rw[h3]at sd; cases sd
       . rw[r1]at sd; cases sd; exact eo hb r2 rfl) vw
      rw[dx (this.trans vw.symm)]; exact hb
   have ql:=lU _ _ kr;have rk:v'.cA=true/\au v'=[v']:=by
    rcases g2.g with ⟨h0,_,_⟩|⟨τ,r1,_,_⟩
    . omega
    . rw[r1]; exact⟨rfl,rfl⟩
   rw[cL ql];refine⟨⟨rk.1,by rw[rk.2]; rfl,by simp⟩,?_⟩;refine V8 _ ⟨⟨?_,?_,?_⟩,v',?_,?_⟩ (hsz _ _ hy) ?_
   . rw[aM V5]; exact lU _ _ h1
   . rw[aM heb]; exact lU _ _ h2
   . rw[aM htb]; exact lU _ _ h3
   . rw[aX,rk.2]; rfl
   . have:gC (bK ⟨.e,0⟩) (bI.set b2 (.box (ax [vk] 0 (au v')))) v' 3 1 (ks.length+1) (ia ks++[.int .i64 (kN:Nat)]):=by
      refine⟨?_,g2.z,g2.t,zR _⟩;rcases g2.g with g|⟨τ,r1,r2,r3⟩
      . exact .inl g
      . exact .inr ⟨τ,r1,by rw[iL (eo ql r2).symm]; exact r2,r3⟩
     simpa [ia] using this
   . obtain⟨_,kl⟩:=n7 mV.g k2;rw[fF]; exact kl hL;rw[eE,if_neg (bY ql (kl hL)).symm]
 . obtain⟨⟨h1,h2,h3⟩,vk,kr,mV⟩:=hI;have ql:(ad.del o).box b2=some [vk]:=by rw[iD (bY kr hL)]; exact kr
   refine gq ql rfl (aq.mk ?_);refine aq.mk (h _ _ ?_);rw[<- kM];refine⟨?_,mV.z,mV.t,zR _⟩;rcases mV.g with g|⟨τ,r1,r2,r3⟩
   . exact .inl g
   . exact .inr ⟨τ,r1,by rw[JZ (sY r2 hL)]; exact r2,r3⟩
end Go.Rip
namespace Go.Rip
open Go.Proofs Go.RowKit
section
variable {v:AV} {l:List Nd}
theorem Lz (hv:Sl v l) (hl:l.length<=10000) (sc:∀ x∈l,x.text.length<=3000) (p:Int):Pure K 35 [.agg [v],.int .i64 p] (.aQ [j4 (sf l p),.int .i64 (mZ l p)]):=by
 refine Pure.LV (by simp[bG,hv.cl,show closed (.int .i64 p)=true from rfl]) (by simp[closed,bG,D1]) λ R hR=>?_;refine P5 ?_;unfold R0;rw[fY rfl];intro b1 hb1;have m1:((bK ⟨.e,0⟩).new b1 (.box (au (.agg [v])))).box b1=some [v]:=aI;generalize (bK _).new b1 _=az at *;rw[fY rfl];intro b2 hb2;have m2:(az.new b2 (.box (au (.int .i64 p)))).box b2=some [.int .i64 p]:=aI;have m1:=(bC hb2 (x:=.box (au (.int .i64 p)))).bf m1;generalize az.new b2 _=bF at *;refine A8 m1 (gq m2 rfl ?_);have fin:∀ (x:AV) (e:Int) (ad:St),(∀ τ,resolve 4 τ x=j4 (sf l p))->e=mZ l p->aj (λ v9 U=>(aK v9 0).wp K U (λ v10 U=>(aK v9 1).wp K U (λ v11 U=>aq R (AV.aQ [v10,v11]) U) (aa R)) (aa R)) (aa R) (.ret (.aQ [x,.int .i64 e])) ad:=by
  intro x e ad hx he;simp only[bA,bh,List.drop,bl];refine aq.mk (hR _ _ ?_);subst he;show AV.aQ [resolve 4 ad x,_]=_;rw[hx]; rfl
 refine Xp (fs:=[]) (cs:=[.box b2 0]) hv hl sc (by kernel_rfl) (λ ha bI e2=>?_) (λ ha bI e2=>?_)
 . refine fin _ _ _ (λ τ=>?_) rfl;have:sf l p=[]:=by unfold sf; rw[if_neg ha]
   rw[this]; rfl
 have m2:=e2.bf m2;show ae K 79 [.agg [v],.box b2 0] bI _;refine Qi ?_;unfold Sd;rw[fY rfl];intro b3 kL;have m3:(bI.new b3 (.box (au (.agg [v])))).box b3=some [v]:=aI;have m2:=(bC kL (x:=.box (au (.agg [v])))).bf m2;generalize bI.new b3 _=cj at *;refine A8 m3 (gq m2 rfl ?_);obtain⟨n,t,s,rfl,rfl,h1,h2,h3,hs⟩:=Kl ha;obtain⟨x,hx,_,Wg,_⟩:=hs.pP;have hle:=hs.le;refine za hv.s hx (bD (by omega) (by omega)) λ bn be bt cm d1 d2 d3 f1 f2 f3 q1 q2 q3 e4=>?_;rw[bA];refine ID hv.s h3 hl (by omega) (λ i y hy=>by have:=IP.2.2 i y hy; omega) q1 q2 q3 λ cY v5 g5=>?_;rw[bA];have hk:sf t.flat n=eZ t.flat ((n:Int)+x.size) t.flat.length (n+1):=by
  unfold sf Dv; rw[if_pos ha,iJ,CX hx,show (x.size.toNat:Int)=x.size by omega]
 rw[<- hk]at g5;refine aq.mk ⟨v5,0,rfl,λ h=>absurd rfl h,λ _=>fin _ _ _ (λ τ=>g5.ints _ _) ha.symm⟩
end
end Go.Rip
