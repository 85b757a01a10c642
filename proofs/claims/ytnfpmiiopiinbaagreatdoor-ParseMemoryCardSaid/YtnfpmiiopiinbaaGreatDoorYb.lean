import Derived.Test.YtnfpmiiopiinbaaGreatDoorYa
set_option linter.all false
namespace Go.Rip
open Go.Proofs Go.RowKit
def BJ:∀(f:Nat)(s:aT)(p:Nat)(l:List Tk){q:Nat}{e:Int},iy f s p l=.bad q e->e≠0
 | 0,s,p,l,q,e,h=>by simp[iy]at h
 | f+1,s,p,l,q,e,h=>by
   simp only[iy]at h;split at h
   . cases h
   . split at h
     . exact BJ f s _ l h
     . split at h
       . exact BJ f s _ l h
       . split at h
         . rename_i he;cases h;exact he
         . split at h
           . cases h;omega
           . exact BJ f s _ _ h
def FP{s:aT}{p:Nat}{e:Int}(h:lF s=.bad p e):e≠0:=by
 unfold lF at h;split at h;split at h
 . rename_i he;cases h;exact he
 . exact BJ _ _ _ _ h
def IT(l:List Tk):dz (pz l) l.length (gu l):=by
 unfold pz;split
 . rename_i h;subst h;exact .inl ⟨rfl,rfl,rfl⟩
 . exact .inr ⟨_,rfl⟩
def sr(s:aT)(l:List Tk)(h:lF s=.ok l):Rx:=⟨l,s.length,pz l,IT l,(Iq h).1,(Iq h).2⟩
def acI{U:St}{R:bi}{s:aT}(hs:s.length<=3000)(h1:∀p e,lF s=.bad p e->R (.ret (.az [.bE,bv p,bv e])) U)
 (h2:∀l(h:lF s=.ok l)r aa,dt U aa->U.live r=none->aa.box r=some (rd (sr s l h) 0)->R (.ret (.az [.box r 0,bv 0,bv 0])) aa):ag K 53 [.str s] U R:=by
 refine ab8 ?_;dsimp only[adD,ae,ak,ah,ar,dI,aC,dm];refine (Fv s hs).go ?_;cases hl:lF s with
 | bad p e =>
   have he:=FP hl;simp only[qh,bN,List.drop,bI,ck,ad,he,cZ,dS,aL];exact aq.mk (h1 p e hl)
 | ok l =>
   simp only[qh,bN,List.drop,bI,ck,ad,cC,cL,aG,ia];refine FY.go ?_;refine ET.go ?_;have pc:=(IT l).dC;refine jC [pz l,bv 0,bv s.length,DD,uR] (by simp[ta,pc,ax,DD,uR]) ?_;rw[fg rfl];intro r hr;exact aq.mk (h2 l hl r _ ((dt.refl U).new hr) hr.1 aH)
def nL(s:aT):List Nd×Int×Int:=match lF s with
 | .bad p e=>([],p,e)
 | .ok L=>match ri L s.length (L.length+1) [] 0 with
   | .ok l _=>((lr l).1,0,(lr l).2)
   | .bad j=>([],cT L s.length j,4)
   | .out=>([],0,0)
def Hp(p:List Nd×Int×Int):AV:=.az [.agg [gq p.1],bv p.2.1,bv p.2.2]
def Gz:∀l:List Nd,cW (bM l):=λl=>by
 induction l with
 | nil=>rfl
 | cons x l ih=>show cW (dv x++bM l)=true;simp[dv,cW,closed,ih]
def vC(l:List Nd):closed (gq l):=by
 unfold gq;split
 . rfl
 . exact Gz l
def zR(n:Nat)(U:St)(l:List Nd):(bM l).map (resolve (n+1) U)=bM l:=by
 induction l with
 | nil=>rfl
 | cons x l ih =>
   show ((dv x++bM l).map (resolve (n+1) U))=dv x++bM l;rw[List.map_append,ih];rfl
def Nr(n:Nat)(U:St)(l:List Nd):resolve (n+2) U (gq l)=gq l:=by
 unfold gq;split
 . rfl
 . show AV.vec l.length .lC ((bM l).map (resolve (n+1) U))=_;rw[zR]
def dt.acM{U aK aV:St}{r:Nat}(h:dt U aK)(k:jT r aK aV)(n:U.live r=none):dt U aV:=λb x e=>k b x (λhb=>by subst hb;rw[n]at e;cases e) (h b x e)
def Gs.dC{aj U:St}{v:AV}{l:List Nd}(h:Gs aj U v l):v.dC/\al v=[v]:=by
 rcases h with ⟨rfl,_⟩|⟨b,rfl,_⟩<;>exact⟨rfl,rfl⟩
def Gs.set{aj aK aV bG:St}{v:AV}{l:List Nd}(h:Gs aK aV v l)(k:dt aj aK)(m:∀b L,aK.live b=none->aV.box b=some L->bG.box b=some L):Gs aj bG v l:=by
 rcases h with h|⟨b,h1,h2,h3,h4⟩
 . exact .inl h
 . exact .inr ⟨b,h1,m b _ h3 h2,k.fresh h3,h4⟩
def Vc{U:St}{R:bi}(s:aT)(hs:s.length<=3000)(h:∀aa w,dt U aa->Gs U aa w (nL s).1->R (.ret (.az [.agg [w],bv (nL s).2.1,bv (nL s).2.2])) aa):ag K 18 [.str s] U R:=by
 refine abV ?_;dsimp only[adp,ae,ak,fw,fU,aQ,ah,dj,ar,ej,fW,aC,dm,dr,dA,gO,mX,zw,jl];rw[dh];intro b2 iq;have m2:(U.new b2 (.box [.af])).box b2=some [.af]:=aH;have f2:=iq.1;have E0:=bK iq (x:=.box [.af]);generalize U.new b2 _=aj at *;clear iq;have fin:∀(aa:St)(w:AV)(t:List Nd)(p e:Int),w.dC/\al w=[w]->dt U (aa.set b2 (.box [w]))->Gs U (aa.set b2 (.box [w])) w t->(∃x,aa.box b2=some [x])->nL s=(t,p,e) ->
  (dD (some (true,1)) (.box b2 0) (.agg [w]) aa).wp K aa (λ_ U=>fV (some (true,1)) (.box b2 0) U λr0=>aq R (AV.az [r0,bv p,bv e]) U) (aD R):=by
  intro aa w t p e hw hE hm ⟨x,hx⟩ hp;rw[cV hx];have e1:ax [x] 0 (al (.agg [w]))=[w]:=rfl;refine⟨⟨rfl,rfl,d8⟩,?_⟩;rw[e1,rP aZ];rw[hp]at h;exact⟨d8,aq.mk (h _ w hE hm)⟩
 refine acI hs (λp e hl=>?_) (λL hL r aK e1 hrn hr=>?_)
 . have he:=FP hl;simp only[bh,bN,List.drop,bI,ck,ad,he,cZ,dS,aL];refine jC [.af] rfl ?_;exact fin aj .af [] _ _ ⟨rfl,rfl⟩ (E0.set f2) (.inl ⟨rfl,rfl⟩) ⟨_,m2⟩ (by unfold nL;rw[hl])
 . simp only[bh,bN,List.drop,bI,ck,ad,cC,cL,aG];have hXL:(sr s L hL).L=L:=rfl;have hXE:(sr s L hL).E=s.length:=rfl;have yV:nL s=match ri (sr s L hL).L (sr s L hL).E ((sr s L hL).L.length+1) [] 0 with
    | .ok l _=>((lr l).1,0,(lr l).2)
    | .bad j=>([],cT (sr s L hL).L (sr s L hL).E j,4)
    | .out=>([],0,0):=by unfold nL;rw[hL];rfl
   generalize sr s L hL=X at *;have kK:b2≠r:=λe=>by rw[<-e]at hrn;exact cN m2 hrn
   refine⟨λm v2 v5 v8 aa=>∃(i f:Nat)(acc:List Nd)(ks:List AV),m=X.L.length-i/\v2=.box b2 0/\v5=.box r 0/\i<=X.L.length/\X.L.length-i<f/\ri X.L X.E f acc i=ri X.L X.E (X.L.length+1) [] 0/\acc.length<=i/\fH true ks acc/\Grow aa v8 87 1 ks.length ks/\(ks=[]->v8=.af)/\aa.box r=some (rd X i)/\(∃x,aa.box b2=some [x])/\dt U aa/\(∀n τ l,v8=.vec n (.own τ) l->U.live τ=none),
    ⟨_,0,X.L.length+1,[],[],rfl,rfl,rfl,d6,d6,rfl,d8,.nil,.inl ⟨rfl,rfl,rfl⟩,λ_=>rfl,hr,⟨_,e1.bq m2⟩,E0.trans e1,λ_ _ _ h=>by cases h⟩,?_⟩
   have PN:=E0.fresh hrn;clear hr e1 m2 hrn E0;rintro m v2 v5 v8 aV ⟨i,f,acc,ks,rfl,rfl,rfl,hi,hf,hit,uX,hk,hg,T0,hr,iq,hE,ho⟩;have lg:=X.small;simp only[bL,ao,aP,cK,nM hr,rd,List.drop,gg,X.tr.len,aY,bp];cases f with
   | zero=>omega
   | succ f =>
   rw[ri]at hit;refine⟨λaA=>?_,λgL=>?_⟩
   . have aA:i<X.L.length:=by omega
     rw[if_pos aA]at hit;refine SN hr hi (λns j a bG hp hj eF hka A=>?_) (λj bG hp eF hj A=>?_)
     . simp only[bh,bN,List.drop,bI,db,ad,cL,aG];rw[hp]at hit;have hlen:=JN hp;rw[fN];refine⟨d6,?_⟩;rw[eg (o:=0) (s:=1) rfl];refine⟨⟨hka.dC.1,by rw[hka.dC.2];rfl,by simp[bZ]⟩,?_⟩;rw[gS,hka.dC.2];refine⟨rfl,?_⟩;have xX:Grow bG v8 87 1 ks.length ks:=by
        rcases hg with h|⟨τ,r1,r2,r3⟩
        . exact .inl h
        . exact .inr ⟨τ,r1,A.ex.tok (fY hr r2).symm r2,r3⟩
       have kH:=hk.le;refine Ce (m:=1) (l2:=[a]) xX rfl rfl d6 d6 (λh=>T0 (ti.1 h)) λcI v' g1 g2 g3=>?_;obtain⟨kb,_⟩:=ly xX g2;refine⟨X.L.length-j,d6,j,f,acc++ns,ks++[a],rfl,rfl,rfl,hj,d6,hit,by simp;omega,hk.snoc hka,by simpa using g1,λh=>by simp at h,kb A.box,?_,?_,?_⟩
       . obtain⟨x,hx⟩:=iq;exact⟨x,kb (A.ex.bq kK hx)⟩
       . exact λb x e=>g2 b x (λn l hv=>by have:=ho _ _ _ hv;rw[this]at e;cases e) (hE.acM A.ex PN b x e)
       . exact λn τ l hv=>(g3 n τ l hv).elim (λh=>(hE.acM A.ex PN).fresh h) λ⟨_,_,h⟩=>ho _ _ _ h
     . simp only[bh,bN,List.drop,bI,db,ad,dS,aL];rw[hp]at hit;refine jC [.af] rfl ?_;obtain⟨x,hx⟩:=iq;refine fin bG .af [] _ _ ⟨rfl,rfl⟩ ((hE.acM A.ex PN).set f2) (.inl ⟨rfl,rfl⟩) ⟨x,A.ex.bq kK hx⟩ ?_;rw[yV,<-hit];rfl
   . rw[if_neg d6]at hit;have hv:ks=[]/\v8=.af\/∃c,v8=.vec ks.length c ks:=by
      rcases hg with ⟨_,h1,h2⟩|⟨τ,r1,_,_⟩
      . exact .inl ⟨h1,h2⟩
      . exact .inr ⟨_,r1⟩
     refine aaa hv hk d6 λbG w e3 hm=>?_;simp only[bh,bN,List.drop,bI];rw[dh];intro rX wB;obtain⟨x,hx⟩:=iq;have E3:=hE.trans e3;have f12:=E3.fresh wB.1;have m2:=((e3.new wB (x:=.box [.af])).bq hx);have n2:=wB.cA (e3.bq hx);have m12:(bG.new rX (.box [.af])).box rX=some [.af]:=aH;have E4:=E3.new wB (x:=.box [.af]);have hm:=hm.set hE (bG:=((bG.new rX (.box [.af])).set rX (.box [w])).set b2 (.box [w])) λb L h1 h2=>by
      have n1:b≠b2:=λe=>cN hx (e▸h1);have n3:=wB.cA h2;rw[bf n1,bf n3];exact (bK wB (x:=.box [.af])).bq h2
     generalize bG.new rX (.box [.af])=cI at *;rw[cV m12];have e1:ax [AV.af] 0 (al (.agg [w]))=[w]:=rfl;refine⟨⟨rfl,rfl,d8⟩,?_⟩;rw[e1,mK aZ];refine⟨d8,?_⟩;have E5:=E4.set f12 (x:=.box [w]);exact fin _ w (lr acc).1 0 (lr acc).2 hm.dC (E5.set f2) hm ⟨x,by rw[bf n2];exact m2⟩ (by rw[yV,<-hit])
structure Sl (v:AV) (l:List Nd):Prop where
 s:dz v l.length (bM l)
 c:closed v
def Qh(l:List Nd):Sl (gq l) l:=by
 refine⟨?_,vC l⟩;unfold gq;split
 . rename_i h;subst h;exact .inl ⟨rfl,rfl,rfl⟩
 . exact .inr ⟨_,rfl⟩
def Sl.ir{v:AV}{l:List Nd}(h:Sl v l)(U:St):jE U v l:=h.s.Dl
def Sl.cl{v:AV}{l:List Nd}(h:Sl v l):closed (.agg [v]):=by simp[closed,cW,h.c]
variable {b:Nat}{K' Kp:am}
def gw{o k:Nat}{U:St}(h:K' (.box b (o+k)) U):(bu (some k) (.box b o)).wp K U K' Kp:=h
def rU{v:AV}{U τ:St}(hb:U.box b=some [v])(h:K' (.agg [v]) τ):(bj (some (true,1)) (.box b 0) U).wp K τ K' Kp:=by
 rw[mK hb];exact⟨d8,h⟩
def vO(l:List Nd):Bool:=decide (l.length<=1000)&&l.all λx=>decide (x.text.length<=100)
def D3{l:List Nd}:vO l=true↔l.length<=1000/\∀x∈l,x.text.length<=100:=by simp[vO]
def IS{v:AV}{l:List Nd}(hv:dz v l.length (bM l)):Pure K 49 [v] (.bool (vO l)):=by
 intro U R hR;refine ab7 ?_;dsimp only[adC,bg,ak,mR,aQ,ah,ar,ca,eN,cJ,aC];rw[hv.len,ad];refine yF (df (λh=>?_) λh=>?_)
 . refine aq.eq hR ?_;have:vO l=false:=by unfold vO;rw[decide_eq_false d6];rfl
   rw[this]
 refine⟨λm v0 v3 aa=>∃i:Nat,m=l.length-i/\i<=l.length/\v0=v/\v3=bv (i:Nat)/\aa=U/\∀j x,j<i->l[j]?=some x->x.text.length<=100,⟨_,0,rfl,d6,rfl,rfl,rfl,λj x h=>by omega⟩,?_⟩;rintro m v0 v3 aa ⟨i,rfl,hi,rfl,rfl,rfl,cg⟩;have hlen:dK (some false) v0=.val (bv l.length):=hv.len;rw[hlen,ad,aY,ad];refine df (λaA=>?_) λgL=>?_
 . have aA:i<l.length:=by omega
   obtain⟨x,hx⟩:∃x,l[i]?=some x:=⟨l[i],by simp[aA]⟩;refine wK hv.Dl hx (show (dv x)[1]?=some (.str x.text) from rfl) ?_;show ((aW.val (bv x.text.length)).wp K _ _ _);rw[ad];refine yF (df (λh=>?_) λh=>?_)
   . refine aq.eq hR ?_;have:vO l=false:=by
      cases ht:vO l with
      | false=>rfl
      | true=>have:=(D3.1 ht).2 x (fT hx);omega
     rw[this]
   . rw[cF];refine⟨aX d6 d6,l.length-(i+1),d6,i+1,rfl,d6,rfl,d8,rfl,λj y hj hy=>?_⟩
     by_cases wQ:j=i
     . subst wQ;rw[hx]at hy;cases hy;omega
     . exact cg j y d6 hy
 . refine aq.eq hR ?_;have:vO l:=D3.2 ⟨d6,λx hx=>by
    obtain⟨j,hj,rfl⟩:=List.getElem_of_mem hx;exact cg j _ d6 (by simp[hj])⟩
   rw[this]
def ZT{v:AV}{l:List Nd}(hv:Sl v l):Pure K 24 [.agg [v]] (.bool (vO l)):=by
 refine Pure.of (by simp[cW,hv.cl]) rfl (λU=>rfl) λR hR=>?_;refine abX ?_;dsimp only[adr,ae,bg,ah,dI];rw[fg rfl];intro b1 gz;have m1:((cj ⟨.e,0⟩).new b1 (.box (al (.agg [v])))).box b1=some [v]:=aH;generalize (cj _).new b1 _=aj at *;refine gw (dN m1 rfl ((IS hv.s).go ?_));exact aq.mk (hR _)
def ahu{mu:Bool}{e sz m:Nat}{y:AV}{l2:List AV}{U:St}{K':am}{Kp:am}(hy:qD U y=some (m,l2))(hl:l2.length=m*sz)(hb:m<=4294967296)
 (h0:m=0->K' .af U) (h1:m≠0->mu->∀b,U.eO b->K' (.ms b 0 m sz e) (U.new b (.box l2))) (h2:m≠0->mu=false->∀b,U.eO b->K' (.vec m (.own b) l2) (U.new b (.tok ⟨m,e,sz⟩))):(dH (some (e,sz)) mu .af y U).wp K U K' Kp:=by
 simp only[dH,hy,wp_cond];refine⟨hl,?_⟩
 by_cases hm:m=0
 . rw[if_pos hm,ad];exact h0 hm
 . rw[if_neg hm,wp_cond];refine⟨hb,?_⟩;cases mu with
   | true=>exact λb fi=>h1 hm rfl b fi
   | false=>exact λb fi=>h2 hm rfl b fi
variable {n:Nat}
def OX{k z e:Nat}{U:St}{L:List AV}(h:U.box b=some L):resolve (n+1) U (.ms b 0 k z e)=.vec k .lC (L.map (resolve n U)):=by
 rw[resolve,h];rfl
def Fs{U:St}{l:List Nd}(h:U.box b=some (bM l))(h0:l≠[]):resolve (n+2) U (.ms b 0 l.length 6 43)=gq l:=by
 rw[OX h,zR,gq,if_neg h0]
def Tr{v:AV}{l:List Nd}(hv:Sl v l)(hl:l.length<=100000):Pure K 26 [.agg [v]] (.agg [gq l]):=by
 refine Pure.of' (by simp[cW,hv.cl]) (Qh l).cl λR hR=>?_;refine abZ ?_;dsimp only[adt,bg,fw,ah,dI,ej,aC,dr,dA];rw[fg rfl];intro b1 gz;have m1:((cj ⟨.e,0⟩).new b1 (.box (al (.agg [v])))).box b1=some [v]:=aH;generalize (cj _).new b1 _=aj at *;rw[dh];intro b2 iq;have m2:(aj.new b2 (.box [AV.af])).box b2=some [.af]:=aH;have m1:=(bK iq (x:=.box [AV.af])).bq m1;generalize aj.new b2 (.box [AV.af])=aK at *;refine gw (dN m1 rfl ?_);refine ahu (hv.ir _).src (gb l▸by omega) d6 (λh0=>?_) (λh1 _ b hb=>?_) (λ_ h=>by cases h)
 . have:l=[]:=ti.1 h0;subst this;refine jC [.af] rfl ?_;rw[cV m2];refine⟨⟨rfl,rfl,d8⟩,?_⟩;rw[rP aZ];exact⟨by simp[ax],aq.mk (hR _ _ rfl)⟩
 . have cD:=hb.cA m2;refine jC [.ms b 0 l.length 6 43] rfl ?_;rw[cV (show (aK.new b (.box (bM l))).box b2=some _ by rw[pF cD];exact m2)];refine⟨⟨rfl,rfl,d8⟩,?_⟩;rw[rP aZ];refine⟨by simp[ax],aq.mk (hR _ _ ?_)⟩;have mC:((aK.new b (.box (bM l))).set b2 (.box (ax [AV.af] 0 (al (.agg [.ms b 0 l.length 6 43]))))).box b=some (bM l):=by
    rw[bf cD.symm,aH]
   generalize (aK.new b (.box (bM l))).set b2 _=aV at *;show AV.agg [resolve 4 aV (.ms b 0 l.length 6 43)]=_;have:l≠[]:=λe=>h1 (by rw[e];rfl);rw[Fs mC this]
noncomputable def lO(l:List Nd)(p:Int):Int:=if iU l≠0 then iU l else if p<0\/(l.length:Int)<=p then 3 else 0
def aaj{v:AV}{l:List Nd}(hv:Sl v l)(hl:l.length<=10000)(mT:∀x∈l,x.text.length<=3000)(p:Int):Pure K 65 [.agg [v],bv p] (bv (lO l p)):=by
 refine Pure.of (by simp[cW,hv.cl,show closed (bv p) from rfl]) rfl (λU=>rfl) λR hR=>?_;refine acj ?_;dsimp only[adN,lN,Bf,HV,fe,ae,ak,ah,dj,ar,dI,bX];rw[fg rfl];intro b1 gz;have m1:((cj ⟨.e,0⟩).new b1 (.box (al (.agg [v])))).box b1=some [v]:=aH;generalize (cj _).new b1 _=aj at *;refine rU m1 ?_;refine Po (hv.ir _) d6 (λx hx=>by have:=mT x hx;omega) λaK e1=>?_;have m1:=e1.bq m1;simp only[bh,ck,ad]
 by_cases hc:iU l=0
 rotate_left
 . simp only[hc,cZ,dS];refine cO (aq.mk ?_);have:lO l p=iU l:=by unfold lO;rw[if_pos hc]
   rw[<-this];exact hR _
 simp only[hc,cC,cL];refine cz ?_;rw[aY,ad]
 by_cases hp:p<0
 . simp only[hp,cC,aF,show (true==false)=false from rfl,aw,bB,jd,av,if_true,ad];refine cO (aq.mk ?_);have:lO l p=3:=by unfold lO;rw[if_neg (by simp[hc]),if_pos (.inl hp)]
   rw[<-this];exact hR _
 . simp only[hp,cZ,aF,eG,aw,bO,ao];refine j9 (eQ m1 rfl ?_);rw[hv.s.len,ao,eX,ao];simp only[av,bW,if_false,ad];refine df (λh=>aq.mk ?_) λh=>aq.mk ?_
   . have:lO l p=3:=by unfold lO;rw[if_neg (by simp[hc]),if_pos (.inr h)]
     rw[<-this];exact hR _
   . have:lO l p=0:=by unfold lO;rw[if_neg (by simp[hc]),if_neg d6]
     rw[<-this];exact hR _
def I7{l:List Nd}{p:Int}(h:lO l p=0):∃(n:Nat)(t s:Tre),p=n/\l=t.flat/\t.kind=1/\t.ok/\n<l.length/\dP l n s:=by
 unfold lO at h;split at h
 . rename_i hc;exact absurd h hc
 . rename_i hc;split at h
   . cases h
   . rename_i hp;have hc:iU l=0:=Classical.not_not.1 hc;have h9:¬ 900<l.length:=λh=>by unfold iU at hc;rw[if_pos h]at hc;cases hc
     have:∃t:Tre,l=t.flat/\t.kind=1/\t.ok:=Classical.not_not.1 λh=>by rw[Bk h9 h]at hc;cases hc
     obtain⟨t,rfl,h1,h2⟩:=this;obtain⟨⟨s,_,hs,_⟩,_⟩:=place t (i:=p.toNat) d6;exact⟨p.toNat,t,s,d6,rfl,h1,h2,d6,hs⟩
def ZL{l:List Nd}{x:Nd}(h:l[n]?=some x):iY l n=x.size.toNat:=by unfold iY;rw[h];rfl
def upF(l:List Nd)(p:Nat):Nat->Nat
 | 0=>0
 | i+1=>if i+1+iY l (i+1)<=p then upF l p i else i+1
def Rm{t:Tre}:CI t.flat:=((zk t.flat).2 ⟨t,rfl⟩).1
def acY{a b n:Int}{U:St}(h:K' (.bool (decide (a<=n/\n<=b))) U):ag K 122 [bv a,bv b,bv n] U (bD K' Kp):=(sO a b n).go h
def xJ{l:List Nd}{p:Int}(h:iU l≠0):lO l p=iU l:=by unfold lO;rw[if_pos h]
def aai{l:List Nd}{p:Int}(h:iU l=0)(hp:¬ (0<=p/\p<=(l.length:Int)-1)):lO l p=3:=by unfold lO;rw[if_neg (by simp[h]),if_pos d6]
def aej{l:List Nd}{p:Int}(h:iU l=0)(hp:0<=p/\p<=(l.length:Int)-1):lO l p=0:=by unfold lO;rw[if_neg (by simp[h]),if_neg d6]
def ac3(R:bi)(z:AV):bi:=λr U=>∃x e,r=.ret (.az [x,bv e])/\(e≠0->R (.ret (.az [z,bv e])) U)/\(e=0->R (.ret (.az [x,bv 0])) U)
section
variable {U:St}{R:bi}{v:AV}{l:List Nd}{p:Int}{g:FuncId}{fs cs:List AV}
def ahA(hg:gP K.P g){a:List AV}:(kQ K.P (.func (.func g) fs cs) a).wp K U K' Kp=ag K g (fs++a++cs) U (bD K' Kp):=by
 simp only[kQ,hg,if_true,nU]
def aeB{z:AV}{aa:St}{a:List AV}(h:ag K g a aa (ac3 R z)) :
 ag K g a aa (bD (λsd U=>(jt sd 0).wp K U (λv30 U=>(jt sd 1).wp K U (λv31 U=>(bU .neq (BT.mk false false false none false) true v31 (bv 0)).wp K U (λzp U =>
  cX zp (aq R (AV.az [z,v31]) U) (aq R (AV.az [v30,(bv 0)]) U)) (aD R)) (aD R)) (aD R)) (aD R)):=by
 refine h.mono λr τ hr=>?_;obtain⟨x,e,rfl,h1,h2⟩:=hr;simp only[bh,bN,List.drop,bI,ck,ad]
 by_cases he:e=0
 . simp only[he,cC,cL];exact cz (aq.mk (h2 he))
 . simp only[he,cZ,dS];exact cO (aq.mk (h1 he))
end
def Grow.jW{r:Nat}{U aa:St}{v:AV}{e sz:Nat}{l L L':List AV}(h:Grow U v e sz n l)(hr:U.box r=some L)(A:gK r L' U aa):Grow aa v e sz n l:=by
 rcases h with h|⟨τ,r1,r2,r3⟩
 . exact .inl h
 . exact .inr ⟨τ,r1,A.ex.tok (fY hr r2).symm r2,r3⟩
end Go.Rip
