import Derived.Test.YtnfpmiiopiinbaaGreatDoorQ
set_option linter.all false
namespace Go.Rip
open Go.Proofs Go.RowKit
def rr(X:Rx)(i:Nat)(bad:Bool):List AV:=[X.tv,bv i,.bool bad]
variable {L:List AV}{t:Tk}
section
variable {X:Rx}{r i:Nat}{bad:Bool}{U:St}{R:bi}
def Kd(hr:U.box r=some (rr X i bad))(h:R (.ret (bv (cT X.L 0 i))) U):ag K 113 [.box r 0] U R:=by
 refine V8 ?_;simp only[V7,ak,ah,gO,mX,mz,zw,jl,bL,ao,aP,nM hr,rr,List.drop,gg,X.tr.len,aY,bp,ad,cK];refine⟨λaA=>?_,λgL=>?_⟩
 . have aA:i<X.L.length:=by omega
   obtain⟨c,hv,nx⟩:=X.tr.at (sz:=3) (e:=51) aA;obtain⟨t,ht⟩:∃t,X.L[i]?=some t:=⟨X.L[i],by simp[aA]⟩;obtain⟨rest,hd⟩:=vo ht;simp only[nx,jB,ao,hd,dX,oA,jD,ke,mQ,List.drop,gg];refine⟨d6,aq.mk ?_⟩;have:cT X.L 0 i=t.at_:=by simp[cT,ht]
   rw[<-this];exact h
 . refine aq.mk ?_;have:cT X.L 0 i=0:=by simp[cT,pn (show X.L.length<=i by omega)]
   rw[<-this];exact h
def gM{k:AV->Prop}{r:aW}{gv:AV}(hg:gv=.bool false)(h:k (.az [])):aI K gv r k:=by rw[hg,aw,bB];exact h
def wG{k:AV->Prop}{x y:AV}(h:k x):bC K (fP ce x y) k:=h
def wF{k:AV->Prop}{x y:AV}(h:k y):bC K (fP ci x y) k:=h
def akk{k:AV->Prop}(h:k ci):bC K (yx .not ce) k:=h
def akj{k:AV->Prop}(h:k ce):bC K (yx .not ci) k:=h
def eZ{k:AV->Prop}{r:aW}{gv v:AV}(hg:gv=.bool true)(hr:r=.val v)(h:k v):aI K gv r k:=by rw[hg,hr];exact h
def uo{l:List AV}{o:Nat}{x:AV}{k:AV->Prop}{gv p:AV}(hg:gv=.bool true)(hr:U.box r=some L)(hp:p=.box r o)(hd:L.drop o=x::l)(h:k x):aI K gv (bj (some (false,1)) p U) k:=by
 rw[hg,hp,ld hr,hd];exact h
def xn{l:List AV}{o:Nat}{x:AV}{k:AV->Prop}(hr:U.box r=some L)(hd:L.drop o=x::l)(h:k x):bC K (jf (.box r 0)) λv2=>bC K (bu (some o) v2) λv3=>bC K (bj (some (false,1)) v3 U) k:=by
 show bC K (bj (some (false,1)) (.box r (0+o)) U) k;rw[ld hr,cK,hd];exact h
def Sq{v:AV}{n:Nat}{cs:List AV}{k:AV->Prop}{gv:AV}(hg:gv=.bool true)(hv:dz v n cs)(h:k (bv n)):aI K gv (dK (some false) v) k:=by
 rw[hg,hv.len];exact h
def So{e:Nat}{k:AV->Prop}{gv:AV}(hg:gv=.bool true)(ht:X.L[i]?=some t)(h:∀rest,k (.dJ (jD t++rest))):aI K gv (bJ (some (e,3)) none X.tv (bv (i:Nat))) k:=by
 have aA:=(dw.1 ht).1;obtain⟨c,hv,nx⟩:=X.tr.at (sz:=3) (e:=e) aA;obtain⟨rest,tE⟩:=vo ht;rw[hg,nx,tE];exact⟨λ_=>by omega,h rest⟩
def wq(hr:U.box r=some (rr X i bad))(w:aT)(h:R (.ret (.bool (!bad&&bP X.L i w))) U):ag K 173 [.box r 0,.str w] U R:=by
 refine XT ?_;dsimp only[XS,fR,eh,qk,se,zu,tQ,zgp,cU,lN,jr,CD,zhn,fe,ah,gO,jl,qm,QS];refine xn (o:=2) hr rfl ?_;have no:bP X.L i w=false\/bad->aq R ci U:=λhn=>by
  refine aq.eq h ?_;rcases hn with hn|hn<;>simp[hn]
 cases bad with
 | true =>
   refine akk ?_
   iterate 10 refine gM rfl ?_
   refine wF ?_
   iterate 13 refine gM rfl ?_
   refine wF ?_
   iterate 26 refine gM rfl ?_
   refine wF ?_;exact no (.inr rfl)
 | false =>
   refine akj ?_;refine eZ rfl rfl ?_;refine eZ rfl rfl ?_;refine eZ rfl rfl ?_;refine uo (o:=1) rfl hr rfl rfl ?_;refine eZ rfl rfl ?_;refine eZ rfl rfl ?_;refine eZ rfl rfl ?_;refine uo (o:=0) rfl hr rfl rfl ?_;refine Sq rfl X.tr ?_
   by_cases aA:i<X.L.length
   . obtain⟨t,ht⟩:∃t,X.L[i]?=some t:=⟨X.L[i],by simp[aA]⟩;have hw:bP X.L i w=((t.k==3||t.k==4)&&decide (t.s=w)):=by
      unfold bP;rw[ht,oN];simp
     refine eZ (v:=.bool true) rfl (by rw[aY];simp;omega) ?_;refine wG ?_;refine eZ rfl rfl ?_;refine eZ rfl rfl ?_;refine eZ rfl rfl ?_;refine uo (o:=0) rfl hr rfl rfl ?_;refine eZ rfl rfl ?_;refine eZ rfl rfl ?_;refine eZ rfl rfl ?_;refine uo (o:=1) rfl hr rfl rfl ?_;refine So rfl ht λr1=>?_;refine eZ rfl rfl ?_;refine eZ (v:=.str t.s) rfl rfl ?_;refine eZ rfl rfl ?_;refine eZ (v:=.bool (decide (t.s=w))) rfl (by rw[hU]) ?_;refine wG ?_
     by_cases hs:t.s=w
     . have fj:(AV.bool (decide (t.s=w)))=.bool true:=by simp[hs]
       rw[fj];refine eZ rfl rfl ?_;refine eZ rfl rfl ?_;refine eZ rfl rfl ?_;refine uo (o:=0) rfl hr rfl rfl ?_;refine eZ rfl rfl ?_;refine eZ rfl rfl ?_;refine eZ rfl rfl ?_;refine uo (o:=1) rfl hr rfl rfl ?_;refine So rfl ht λr2=>?_;refine eZ rfl rfl ?_;refine eZ (v:=co t.k) rfl rfl ?_
       by_cases h3:t.k=3
       . refine eZ (v:=.bool true) rfl (by rw[aN];simp;omega) ?_;refine eZ rfl rfl ?_
         iterate 12 refine gM rfl ?_
         refine eZ (v:=.bool true) rfl rfl ?_;refine wG ?_;refine aq.eq h ?_;rw[hw];simp[h3,hs]
       . refine eZ (v:=.bool false) rfl (by rw[aN];simp;omega) ?_;refine eZ rfl rfl ?_;refine eZ rfl rfl ?_;refine eZ rfl rfl ?_;refine eZ rfl rfl ?_;refine uo (o:=0) rfl hr rfl rfl ?_;refine eZ rfl rfl ?_;refine eZ rfl rfl ?_;refine eZ rfl rfl ?_;refine uo (o:=1) rfl hr rfl rfl ?_;refine So rfl ht λr3=>?_;refine eZ rfl rfl ?_;refine eZ (v:=co t.k) rfl rfl ?_;refine eZ (v:=.bool (decide (t.k=4))) rfl (by rw[aN];simp;omega) ?_;refine eZ (v:=.bool (decide (t.k=4))) rfl rfl ?_;refine wG ?_;refine aq.eq h ?_;rw[hw]
         by_cases h4:t.k=4<;>simp[h3,h4,hs]
     . have fj:(AV.bool (decide (t.s=w)))=.bool false:=by simp[hs]
       rw[fj]
       iterate 26 refine gM rfl ?_
       refine wF ?_;exact no (.inl (by rw[hw];simp[hs]))
   . have hw:bP X.L i w=false:=by unfold bP;rw[pn d6]
     refine eZ (v:=.bool false) rfl (by rw[aY];simp;omega) ?_;refine wG ?_
     iterate 13 refine gM rfl ?_
     refine wF ?_
     iterate 26 refine gM rfl ?_
     refine wF ?_;exact no (.inl hw)
def Qu(hr:U.box r=some (rr X i bad))(k:Nat)(h:R (.ret (.bool (!bad&&ij X.L i k))) U):ag K 174 [.box r 0,co k] U R:=by
 refine XV ?_;dsimp only[XU,fR,qk,se,zu,tQ,cU,ah,gO,jl,qm,QS];simp only[bL,ao,aP,nM hr,rr,List.drop,gg,db,aF,aw,ma,cK];cases bad with
 | true =>
   simp only[cL,show (false==true)=false from rfl,bB,av,bW,if_false,ao,aF,aw];exact aq.mk h
 | false =>
   simp only[dS,eG,bO,ao,iI,bL,aP,nM hr,rr,List.drop,gg,cK,X.tr.len,aY,av,if_true,aF,aw]
   by_cases aA:i<X.L.length
   . have ng:(i:Int)<X.L.length:=by omega
     obtain⟨c,hv,nx⟩:=X.tr.at (sz:=3) (e:=51) aA;obtain⟨t,ht⟩:∃t,X.L[i]?=some t:=⟨X.L[i],by simp[aA]⟩;obtain⟨rest,hd⟩:=vo ht;simp only[ng,cC,eG,bO,ao,iI,bL,aP,nM hr,rr,List.drop,gg,cK,nx,jB,hd,jD,ke,mQ,dX,oA,aN,av,if_true,aF,aw];refine⟨d8,?_⟩;have e3:((t.k:Int)=(k:Int))=(t.k=k):=by simp;omega
     have hw:ij X.L i k=decide (t.k=k):=by
      unfold ij;rw[ht];rw[oN];simp
     rw[hw]at h;simp only[e3];exact aq.mk h
   . have ng:¬ (i:Int)<X.L.length:=by omega
     have hw:ij X.L i k=false:=by unfold ij;rw[pn d6]
     rw[hw]at h;simp only[ng,cZ,show (false==true)=false from rfl,bB,av,bW,if_false,ao,aF,aw];exact aq.mk h
end
variable {s:aT}
section
variable {X:Rx}{r i:Nat}{bad:Bool}{U:St}{R:bi}
def Nt(hr:U.box r=some (rr X i bad)):(U.set r (.box (ax (rr X i bad) 2 (al ce)))).box r=some (rr X i true):=by rw[aZ];simp[ax,rr]
def acK(hr:U.box r=some (rr X i bad))(w:aT)(h1:bad=false->bP X.L i w->∀aa,gK r (rr X (i+1) false) U aa->R (.ret ce) aa)(h2:bad\/bP X.L i w=false->R (.ret ci) U):ag K 114 [.box r 0,.str w] U R:=by
 refine Wa ?_;dsimp only[V9,ae,bg,ak,ah,ar,cw,cG,fW,cn];have hs:=X.small;refine wq hr w ?_;simp only[bh,db,ad];cases hb:(!bad&&bP X.L i w) with
 | false =>
   simp only[dS,aL];refine aq.mk (h2 ?_);cases bad<;>simp_all
 | true =>
   have qG:bad=false:=by cases bad<;>simp_all
   subst qG;have hw:bP X.L i w:=by simpa using hb
   have aA:=de hw;simp only[cL,aG,bL,ad,aP,cK];rw[gJ hr];simp only[rr,List.drop,bI,cF];refine⟨aX d6 d6,?_⟩;rw[cV hr];refine⟨⟨rfl,rfl,by simp[rr]⟩,aq.mk (h1 rfl hw _ ⟨?_,(jT.refl _ _).set (.inr rfl)⟩)⟩;rw[aZ];simp[ax,rr]
def QE(hr:U.box r=some (rr X i bad))(w:aT)(h1:bad=false->bP X.L i w->∀aa,gK r (rr X (i+1) false) U aa->R (.ret (bv (cT X.L 0 i))) aa)(h2:bad\/bP X.L i w=false->∀aa,gK r (rr X i true) U aa->R (.ret (bv 0)) aa):ag K 116 [.box r 0,.str w] U R:=by
 refine We ?_;dsimp only[Wd,ae,bg,ak,ah,ar,cw,cG,fW,cn];have hs:=X.small;refine Kd hr ?_;refine wq hr w ?_;simp only[bh,db,ad];cases hb:(!bad&&bP X.L i w) with
 | false =>
   simp only[dS,aL,bL,ad,aP,cK];rw[cV hr];refine⟨⟨rfl,rfl,by simp[rr]⟩,aq.mk (h2 ?_ _ ⟨Nt hr,(jT.refl _ _).set (.inr rfl)⟩)⟩;cases bad<;>simp_all
 | true =>
   have qG:bad=false:=by cases bad<;>simp_all
   subst qG;have hw:bP X.L i w:=by simpa using hb
   have aA:=de hw;simp only[cL,aG,bL,ad,aP,cK];rw[gJ hr];simp only[rr,List.drop,bI,cF];refine⟨aX d6 d6,?_⟩;rw[cV hr];refine⟨⟨rfl,rfl,by simp[rr]⟩,aq.mk (h1 rfl hw _ ⟨?_,(jT.refl _ _).set (.inr rfl)⟩)⟩;rw[aZ];simp[ax,rr]
def RP{K':am}(hr:U.box r=some (rr X i bad))(k:Nat)(h1:∀t,bad=false->X.L[i]?=some t->t.k=k->K' ce U)(h2:bad\/ij X.L i k=false->K' ci U):ag K 174 [.box r 0,co k] U (bD K' (aD R)):=by
 refine Qu hr k ?_;simp only[bh];cases hb:(!bad&&ij X.L i k) with
 | false=>exact h2 (by cases bad<;>simp_all)
 | true =>
   have qG:bad=false:=by cases bad<;>simp_all
   have hk:ij X.L i k:=by subst qG;simpa using hb
   unfold ij at hk;split at hk
   . rename_i t ht;exact h1 t qG ht (by simpa using hk)
   . cases hk
def qtk{e o:Nat}{x:AV}{l:List AV}{k:AV->Prop}{j:Int}(hj:j=(i:Nat))(ht:X.L[i]?=some t)(hd:(jD t).drop o=x::l)(h:k x):bC K (bJ (some (e,3)) none X.tv (bv j)) λv1=>bC K (bu (some o) v1) λv2=>bC K (bj (some (false,1)) v2 U) k:=by
 subst hj;have aA:=(dw.1 ht).1;obtain⟨c,hv,nx⟩:=X.tr.at (sz:=3) (e:=e) aA;obtain⟨rest,tE⟩:=vo ht;rw[nx,tE];have hlen:o<=(jD t).length:=by
  rcases ik (jD t).length o with h|h
  . rw[List.drop_eq_nil_of_le d6]at hd;cases hd
  . exact h
 refine⟨d6,?_⟩;show bC K (kn ((jD t++rest).drop o)) k;rw[List.drop_append_of_le_length hlen,hd];exact h
def Ns(hr:U.box r=some (rr X i bad))(h1:∀t,bad=false->X.L[i]?=some t->t.k=1->∀aa,gK r (rr X (i+1) false) U aa->R (.ret (.str t.s)) aa)(h2:bad\/ij X.L i 1=false->∀aa,gK r (rr X i true) U aa->R (.ret (.str [])) aa):ag K 115 [.box r 0] U R:=by
 refine Wc ?_;have hs:=X.small;dsimp only[Wb,ae,bg,ak,ah,ar,cw,cG,fW,cn,gO,kT,mz,jl];refine RP hr 1 (λt qG ht hk=>?_) (λhb=>?_)
 . subst qG;have aA:=(dw.1 ht).1;simp only[db,ad,cL,aG,bL,aP,cK];rw[gJ hr];simp only[rr,List.drop,bI,cF];refine⟨aX d6 d6,?_⟩;rw[cV hr];refine⟨⟨rfl,rfl,by simp[rr]⟩,?_⟩;have q9:(U.set r (.box (ax (rr X i false) 1 (al (bv ((i:Int)+1)))))).box r=some (rr X (i+1) false):=by rw[aZ];simp[ax,rr]
   have A:gK r (rr X (i+1) false) U (U.set r (.box (ax (rr X i false) 1 (al (bv ((i:Int)+1)))))):=⟨q9,(jT.refl _ _).set (.inr rfl)⟩;generalize U.set r (.box (ax (rr X i false) 1 (al (bv ((i:Int)+1)))))=aV at *;refine xn (o:=0) q9 rfl ?_;refine xn (o:=1) q9 rfl ?_;rw[La];refine⟨aX d6 d6,?_⟩;refine qtk (i:=i) d6 ht rfl ?_;exact aq.mk (h1 t rfl ht hk _ A)
 . simp only[db,ad,dS,aL,bL,aP,cK];rw[cV hr];exact⟨⟨rfl,rfl,by simp[rr]⟩,aq.mk (h2 hb _ ⟨Nt hr,(jT.refl _ _).set (.inr rfl)⟩)⟩
def Jf{j:Nat}(h:j<s.length):oh 0 (s.take (j+1))=10*oh 0 (s.take j)+((s[j].toNat:Int)-48):=by
 have:s.take (j+1)=s.take j++[s[j]]:=by rw[nP,mP h];rfl
 rw[this];unfold oh;rw[List.foldl_append];rfl
def Sz(hr:U.box r=some (rr X i bad))(h1:∀t,bad=false->X.L[i]?=some t->t.k=2->∀aa,gK r (rr X (i+1) false) U aa->R (.ret (bv (xN t.s))) aa)(h2:bad\/ij X.L i 2=false->∀aa,gK r (rr X i true) U aa->R (.ret (bv 0)) aa):ag K 175 [.box r 0] U R:=by
 refine XX ?_;have hs:=X.small;dsimp only[XW,ae,bg,ak,fU,aQ,ah,ar,ca,cw,cG,fW,cn,aC,gO,kT,mz,jl];refine RP hr 2 (λt qG ht hk=>?_) (λhb=>?_)
 . subst qG;have aA:=(dw.1 ht).1;simp only[db,ad,cL,aG,bL,aP,cK];rw[gJ hr];simp only[rr,List.drop,bI,cF];refine⟨aX d6 d6,?_⟩;rw[cV hr];refine⟨⟨rfl,rfl,by simp[rr]⟩,?_⟩;have q9:(U.set r (.box (ax (rr X i false) 1 (al (bv ((i:Int)+1)))))).box r=some (rr X (i+1) false):=by rw[aZ];simp[ax,rr]
   have A:gK r (rr X (i+1) false) U (U.set r (.box (ax (rr X i false) 1 (al (bv ((i:Int)+1)))))):=⟨q9,(jT.refl _ _).set (.inr rfl)⟩;generalize U.set r (.box (ax (rr X i false) 1 (al (bv ((i:Int)+1)))))=aV at *;refine xn (o:=0) q9 rfl ?_;refine xn (o:=1) q9 rfl ?_;rw[La];refine⟨aX d6 d6,?_⟩;refine qtk (i:=i) d6 ht rfl ?_;have dG:=X.ok t (fT ht);have cD:=Iz dG hk;obtain⟨b1,b2,b3,b4,b5⟩:=zd dG.1 cD;have cg:=(Eu cD).1;refine⟨λm v3 v4 v5 aa=>∃j:Nat,m=t.s.length-j/\j<=t.s.length/\v3=bv (oh 0 (t.s.take j))/\v4=.str t.s/\v5=bv (j:Nat)/\aa=aV,⟨_,0,rfl,d6,rfl,rfl,rfl,rfl⟩,?_⟩;rintro m v3 v4 v5 aa ⟨j,rfl,hj,rfl,rfl,rfl,rfl⟩;simp only[ia,ad,aY,bp];refine⟨λnH=>?_,λgL=>?_⟩
   . have nH:j<t.s.length:=by omega
     have ajs:∀k,k<=t.s.length->0<=oh 0 (t.s.take k)/\oh 0 (t.s.take k)+1<=10 ^ k:=λk=>by
      induction k with
      | zero=>intro _;simp[oh]
      | succ k ih =>
        intro hk;obtain⟨p1,p2⟩:=ih d6;have kH:k<t.s.length:=by omega
        rw[Jf kH];have hd:fE t.s[k]:=by rw[fQ]at cg;exact cg _ (vd kH)
        have hc:=lA.1 hd;refine⟨d6,?_⟩;rw[Int.pow_succ];omega
     have h7:(10:Int) ^ j<=10 ^ 7:=by
      have:=Nat.pow_le_pow_right (n:=10) d6 (show j<=7 by omega)
      exact_mod_cast this
     obtain⟨p1,p2⟩:=ajs j hj;have p3:oh 0 (t.s.take j)<=10000000:=by omega
     rw[SU];refine⟨aX d6 d6,?_⟩;rw[sZ];refine⟨d6,?_⟩;rw[ez,getD_at nH];have hd:fE t.s[j]:=by rw[fQ]at cg;exact cg _ (vd nH)
     have hc:=lA.1 hd;have hw:IntKind.u8.wrap ((t.s[j].toNat:Int)-48)=(t.s[j].toNat:Int)-48:=by
      show ((t.s[j].toNat:Int)-48)%256=_;omega
     simp only[jA,FE,ad,hw,xh,wp_cond,cF];refine⟨aX d6 d6,aX d6 d6,aX d6 d6,?_⟩;exact⟨t.s.length-(j+1),d6,j+1,rfl,d6,by rw[Jf nH],rfl,d8,rfl⟩
   . have:j=t.s.length:=by omega
     subst this;rw[oO];exact aq.mk (h1 t rfl ht hk _ A)
 . simp only[db,ad,dS,aL,bL,aP,cK];rw[cV hr];exact⟨⟨rfl,rfl,by simp[rr]⟩,aq.mk (h2 hb _ ⟨Nt hr,(jT.refl _ _).set (.inr rfl)⟩)⟩
end
def jE(U:St)(v:AV)(ns:List Nd):Prop:=((v=.af/\ns=[])\/∃c,v=.vec ns.length c (bM ns))\/∃b,v=.ms b 0 ns.length 6 43/\U.box b=some (bM ns)
variable {ns:List Nd}
def jE.src{U:St}{v:AV}(h:jE U v ns):qD U v=some (ns.length,bM ns):=by
 rcases h with (⟨rfl,rfl⟩|⟨c,rfl⟩)|⟨b,rfl,hb⟩
 . rfl
 . rfl
 . simp only[qD,hb,eR];rw[pO (by rw[gb];omega)]
def jE.tT{U aa:St}{v:AV}(h:jE U v ns)(e:dt U aa):jE aa v ns:=by
 rcases h with h|⟨b,h1,h2⟩
 . exact .inl h
 . exact .inr ⟨b,h1,e.bq h2⟩
def jE.dC{U:St}{v:AV}(h:jE U v ns):v.dC/\al v=[v]:=by
 rcases h with (⟨rfl,rfl⟩|⟨c,rfl⟩)|⟨b,rfl,hb⟩<;>exact⟨rfl,rfl⟩
def ac2(U:St)(vs:List AV)(nss:List (List Nd)):Prop:=vs.length=nss.length/\∀(i:Nat)(v:AV)(ns:List Nd),vs[i]?=some v->nss[i]?=some ns->jE U v ns
variable {kv:AV}
section
variable {U:St}{R:bi}
def M7{kind:Int}{text:aT}{n m at_ sz:Int}{vs:List AV}{nss:List (List Nd)}(sF:vs=[]/\kv=.af\/∃c,kv=.vec vs.length c vs)(hk:ac2 U vs nss)(hl:nss.flatten.length<=1000000)(gk:vs.length<=100)
 (h:∀b aa,U.live b=none->aa.box b=some (bM (node kind text n m at_ nss.flatten))->dt U aa->R (.ret (.ms b 0 (node kind text n m at_ nss.flatten).length 6 43)) aa):ag K 60 [.agg [co kind,.str text,bv n,bv m,bv at_,bv sz],kv] U R:=by
 refine acf ?_;dsimp only[adJ,di,ak,fU,aQ,ah,dj,ar,ca,cw,eN,dI,cJ,ej,cn,aC];rw[fg rfl];intro b0 wg;have m0:(U.new b0 (.box (al (.agg [co kind,.str text,bv n,bv m,bv at_,bv sz])))).box b0=some [co kind,.str text,bv n,bv m,bv at_,bv sz]:=aH;have e0:=bK wg (x:=.box (al (.agg [co kind,.str text,bv n,bv m,bv at_,bv sz])));have f0:=wg.1;generalize U.new b0 (.box (al (.agg [co kind,.str text,bv n,bv m,bv at_,bv sz])))=aK at *;simp only[aP,ad,cK];rw[cV m0];refine⟨⟨rfl,rfl,d8⟩,?_⟩;rw[mK aZ];refine⟨by simp[ax],?_⟩;have hag:List.take 6 (List.drop 0 (ax [co kind,.str text,bv n,bv m,bv at_,bv sz] 5 (al (bv 1))))=[co kind,.str text,bv n,bv m,bv at_,bv 1]:=by simp[ax]
 rw[hag];have e1:=e0.set f0 (x:=.box (ax [co kind,.str text,bv n,bv m,bv at_,bv sz] 5 (al (bv 1))));generalize aK.set b0 (.box (ax [co kind,.str text,bv n,bv m,bv at_,bv sz] 5 (al (bv 1))))=aV at *;rw[zt];refine⟨d6,?_⟩;rw[eg (o:=0) (s:=6) rfl];refine⟨⟨rfl,rfl,by simp[bZ]⟩,?_⟩;rw[EJ];refine⟨rfl,λb hb=>?_⟩;have hlen:dK (some false) kv=.val (bv vs.length):=by
  rcases sF with ⟨rfl,rfl⟩|⟨c,rfl⟩<;>rfl
 refine⟨λmm v1 v5 v6 aa=>∃(i b':Nat),mm=vs.length-i/\i<=vs.length/\v1=kv/\v5=.ms b' 0 ((nss.take i).flatten.length+1) 6 43/\v6=bv (i:Nat)/\aa.box b'=some ([co kind,.str text,bv n,bv m,bv at_,bv 1]++bM (nss.take i).flatten)/\U.live b'=none/\dt U aa,
  ⟨_,0,b,rfl,d6,rfl,d8,rfl,by simp[bM,aH,ax,bZ],e1.fresh hb.1,e1.new hb⟩,?_⟩
 rintro mm v1 v5 v6 bG ⟨i,b',rfl,hi,rfl,rfl,rfl,fi,Ax,Jn⟩;have ra:∀k,(nss.take k).flatten.length<=nss.flatten.length:=λk=>by
  have:nss.flatten=(nss.take k).flatten++(nss.drop k).flatten:=by rw[<-List.flatten_append,List.take_append_drop]
  rw[this,dx];omega
 simp only[hlen,aY,ad,bp];refine⟨λaA=>?_,λgL=>?_⟩
 . have aA:i<vs.length:=by omega
   rcases sF with ⟨rfl,_⟩|⟨c,rfl⟩
   . simp at aA
   rw[sv];refine⟨d6,?_⟩;have hd:vs.drop ((i:Int).toNat*1)=vs[i]::vs.drop (i+1):=by rw[ez,Nat.mul_one];exact gI aA
   rw[hd,ln,bI];have nH:i<nss.length:=by rw[<-hk.1];exact aA
   have GX:=(hk.2 i vs[i] nss[i] (by simp[aA]) (by simp[nH])).tT Jn;have kI:(nss.take (i+1)).flatten=(nss.take i).flatten++nss[i]:=by
    have:nss.take (i+1)=nss.take i++[nss[i]]:=by rw[nP,mP nH];rfl
    rw[this,List.flatten_append];simp only[List.flatten_cons,List.flatten_nil,iM]
   have h1:=ra (i+1);rw[kI,dx]at h1;refine HO (sz:=6) (m:=nss[i].length) (l2:=bM nss[i]) fi GX.src ⟨by rw[gb];omega,by simp[gb];omega,d6⟩ λb2 hf=>?_;rw[cF];refine⟨aX d6 d6,vs.length-(i+1),d6,i+1,b2,rfl,aA,rfl,?_,d8,?_,?_,?_⟩
   . rw[kI,dx];congr 1;omega
   . rw[aH,kI,vL];have:((nss.take i).flatten.length+1)*6=([co kind,.str text,bv n,bv m,bv at_,bv 1]++bM (nss.take i).flatten).length:=by simp[gb];omega
     rw[this,oO,lG]
   . have tF:((bG.del b').live b2)=none:=hf.1
     by_cases C7:b2=b'
     . rw[C7];exact Ax
     . rw[jv,if_neg C7]at tF;exact Jn.fresh tF
   . exact (Jn.del Ax).new hf
 . have hi:i=nss.length:=by rw[<-hk.1];omega
   subst hi;rw[oO]at fi ⊢;simp only[Dp,ad];rw[xr];refine⟨⟨d6,d6,rfl⟩,?_⟩;simp only[aP,ad,cK,show (0:Int).toNat*6=0 from rfl];rw[cV fi];refine⟨⟨rfl,rfl,d8⟩,?_⟩;have e:ax ([co kind,.str text,bv n,bv m,bv at_,bv 1]++bM nss.flatten) 5 (al (bv ((nss.flatten.length+1:Nat):Int)))=bM (node kind text n m at_ nss.flatten):=by
    simp[ax,node,bM,dv]
   exact aq.mk (h b' _ Ax (by rw[aZ,e]) (Jn.set Ax))
end
def ag0(x y:Nd):bU .neq (BT.mk false false false (some [.i,.s,.i,.i,.i,.i]) false) false (.agg (dv x)) (.agg (dv y))=.val (.bool (!decide (x=y))):=by
 have:eqR (some [.i,.s,.i,.i,.i,.i]) (dv x) (dv y)=some (decide (x=y)):=by
  cases x;cases y;simp[eqR,dv,rY]
  grind
 simp only[bU,this,zX]
def jE.len{U:St}{v:AV}{l:List Nd}(h:jE U v l):dK (some false) v=.val (bv l.length):=by
 rcases h with (⟨rfl,rfl⟩|⟨c,rfl⟩)|⟨b,rfl,hb⟩<;>rfl
def jE.nd{U:St}{v:AV}{l:List Nd}{i:Nat}{x:Nd}{k:AV->Prop}(h:jE U v l)(hx:l[i]?=some x)(hk:k (.agg (dv x))) :
 bC K (bJ (some (43,6)) none v (bv (i:Nat))) λp=>bC K (bj (some (true,6)) p U) k:=by
 have aA:=(dw.1 hx).1;obtain⟨r,hr⟩:=AM hx;rcases h with (⟨rfl,rfl⟩|⟨c,rfl⟩)|⟨b,rfl,hb⟩
 . simp at aA
 . rw[Nk,ez,hr,IF];refine⟨d6,by simp[dv],?_⟩;simpa [dv] using hk
 . rw[K9,B0 hb,ez,cK,hr];refine⟨⟨d6,d6,rfl⟩,by simp[dv],?_⟩;simpa [dv] using hk
def Qw{U:St}{v1 v2:AV}{l1 l2:List Nd}{R:bi}(h1:jE U v1 l1)(h2:jE U v2 l2)(yU:l1.length<=1000000)(qI:l2.length<=1000000)(h:R (.ret (.bool (decide (l1=l2)))) U):ag K 47 [v1,v2] U R:=by
 refine ab6 ?_;dsimp only[adB,ak,fU,aQ,ah,ar,ca,cJ,zqa,mz,kN];simp only[h1.len,h2.len,ad,ck]
 by_cases hl:l1.length=l2.length
 . have:((l1.length:Int)=l2.length):=by omega
   simp only[this,cC,cL,aG];refine⟨λm w1 w2 v5 aa=>∃i:Nat,m=l1.length-i/\i<=l1.length/\w1=v1/\w2=v2/\v5=bv (i:Nat)/\aa=U/\∀j,j<i->l1[j]?=l2[j]?,⟨_,0,rfl,d6,rfl,rfl,rfl,rfl,λj hj=>by omega⟩,?_⟩;rintro m w1 w2 v5 aa ⟨i,rfl,hi,rfl,rfl,rfl,rfl,heq⟩;simp only[h1.len,aY,ad,bp];refine⟨λaA=>?_,λgL=>?_⟩
   . have aA:i<l1.length:=by omega
     obtain⟨x,hx⟩:∃x,l1[i]?=some x:=⟨l1[i],by simp[aA]⟩;obtain⟨y,hy⟩:∃y,l2[i]?=some y:=⟨l2[i],d8⟩;refine h1.nd hx ?_;refine h2.nd hy ?_;rw[ag0];simp only[ao]
     by_cases Ff:x=y
     . simp only[Ff,cC,cL,aG,cF];refine⟨aX d6 d6,l1.length-(i+1),d6,i+1,rfl,d6,rfl,rfl,d8,rfl,λj hj=>?_⟩;rcases ik j i with h|h
       . exact heq j h
       . have:j=i:=by omega
         subst this;rw[hx,hy,Ff]
     . simp only[Ff,cZ,dS,aL];refine aq.eq h ?_;have:l1≠l2:=λe=>Ff (by rw[e,hy]at hx;cases hx;rfl);simp[this]
   . refine aq.eq h ?_;have:l1=l2:=List.ext_getElem? λj=>by
      rcases ik j i with h|h
      . exact heq j h
      . rw[pn d6,pn d6]
     simp[this]
 . have:¬ ((l1.length:Int)=l2.length):=by omega
   simp only[this,cZ,dS,aL];refine aq.eq h ?_;have:l1≠l2:=λe=>hl (by rw[e]);simp[this]
def FG{o:Nat}{c:AV}(h:L[o]?=some c)(r:List AV):∃r',(L++r).drop o=c::r':=by
 have aA:=(dw.1 h).1;rw[List.drop_append_of_le_length d6,gI aA];have:=(dw.1 h).2;rw[this];exact⟨_,rfl⟩
section
variable {U:St}{v:AV}{l:List Nd}{i o:Nat}{x:Nd}{c gv:AV}{k:AV->Prop}{K':am}{Kp:am}
def wK(h:jE U v l)(hx:l[i]?=some x)(hc:(dv x)[o]?=some c)(hk:K' c U) :
 (bJ (some (43,6)) none v (bv (i:Nat))).wp K U (λp U=>(bu (some o) p).wp K U (λq U=>(bj (some (false,1)) q U).wp K U K' Kp) Kp) Kp:=by
 have aA:=(dw.1 hx).1;obtain⟨r,hr⟩:=AM hx;obtain⟨r',yc⟩:=FG hc r;rcases h with (⟨rfl,rfl⟩|⟨cp,rfl⟩)|⟨b,rfl,hb⟩
 . simp at aA
 . rw[sv,ez,hr];refine⟨d6,?_⟩;simp only[dX,ad,ln,yc,bI];exact hk
 . rw[xr,ez,cK];refine⟨⟨d6,d6,rfl⟩,?_⟩;simp only[aP,ad];rw[gJ hb,<-List.drop_drop,hr,yc,bI];exact hk
def Sm(h:jE U v l)(hx:l[i]?=some x)(hc:(dv x)[o]?=some c)(hk:k c) :
 bC K (bJ (some (43,6)) none v (bv (i:Nat))) λp=>bC K (bu (some o) p) λq=>bC K (bj (some (false,1)) q U) k:=by
 have aA:=(dw.1 hx).1;obtain⟨r,hr⟩:=AM hx;obtain⟨r',yc⟩:=FG hc r;rcases h with (⟨rfl,rfl⟩|⟨cp,rfl⟩)|⟨b,rfl,hb⟩
 . simp at aA
 . rw[Nk,ez,hr];refine⟨d6,?_⟩;simp only[dX,ao,oA,yc,gg];exact hk
 . rw[K9,ez,cK];refine⟨⟨d6,d6,rfl⟩,?_⟩;simp only[aP,ao];rw[nM hb,<-List.drop_drop,hr,yc,gg];exact hk
def lS{r:aW}(h:bC K r k):aI K ce r k:=by rw[aw,bO];exact h
def aaO(h:jE U v l)(hx:l[i]?=some x)(hc:(dv x)[o]?=some c)(hk:k c) :
 aI K ce (bJ (some (43,6)) none v (bv (i:Nat))) λp=>aI K ce (bu (some o) p) λq=>aI K ce (bj (some (false,1)) q U) k:=by
 simp only[aw,bO];exact Sm h hx hc hk
def ac6(h:jE U v l)(hk:k (bv l.length)):aI K ce (dK (some false) v) k:=by
 rw[h.len];exact hk
def fD{x:AV}(hk:k x):aI K ce (.val x) k:=hk
end
structure gi (aj U:St) (v:AV) (e:TypeId) (sz n:Nat) (l:List AV):Prop where
 g:Grow U v e sz n l
 z:n=0->v=.af
 t:afS aj v
 ex:dt aj U
variable {z:AV}
section
variable {aj U:St}{v y:AV}{e:TypeId}{sz n m:Nat}{l l2:List AV}{K':am}{Kp:am}
def gi.nil(h:dt aj U):gi aj U .af e sz 0 []:=⟨.inl ⟨rfl,rfl,rfl⟩,λ_=>rfl,(λ_ _ _ e=>by cases e),h⟩
def gi.mono{aa:St}(h:gi aj U v e sz n l)(k:dt U aa):gi aj aa v e sz n l:=by
 refine⟨?_,h.z,h.t,h.ex.trans k⟩;rcases h.g with g|⟨τ,r1,r2,r3⟩
 . exact .inl g
 . exact .inr ⟨τ,r1,k.tok r2,r3⟩
def yC(h:gi aj U v e sz n l)(hy:qD U y=some (m,l2))(hl:l2.length=m*sz)(hm:0<m)(hb:n+m<=4294967296)
 (hk:∀aa v',gi aj aa v' e sz (n+m) (l++l2)->(∀b x,(∀n l,v≠.vec n (.own b) l)->U.live b=some x->aa.live b=some x)->K' v' aa):(dH (some (e,sz)) false v y U).wp K U K' Kp:=by
 refine Ce h.g hy hl hm hb h.z λaa v' g e1 n1=>hk aa v' ⟨g,λhz=>by omega,λn' τ l' hv=>?_,λb x hx=>?_⟩ e1
 . rcases n1 n' τ l' hv with hz|⟨n2,l2',hx⟩
   . exact h.ex.fresh hz
   . exact h.t _ _ _ hx
 . exact e1 b x (λn' l' hv=>by rw[h.t _ _ _ hv]at hx;cases hx) (h.ex b x hx)
def gi.sl(h:gi aj U v e sz n l):dz v n l:=by
 rcases h.g with ⟨h1,h2,h3⟩|⟨τ,r1,_,_⟩
 . exact .inl ⟨h1,h2,h3⟩
 . exact .inr ⟨_,r1⟩
def EI{e:TypeId}{x:AV}(hx:x.dC)(hc:al x=[x])(hk:K' (.vec 1 .full [x]) U):(ai (some (e,1)) (some [z]) 1 false [(0,x)]).wp K U K' Kp:=by
 rw[fN];refine⟨d6,?_⟩;rw[eg (o:=0) (s:=1) rfl];refine⟨⟨hx,by rw[hc];rfl,by simp[bZ]⟩,?_⟩;rw[gS,hc];exact⟨rfl,hk⟩
end
def dW(ks:List Nat):List AV:=ks.map λk=>bv (k:Nat)
def Uw(ks:List Nat):(dW ks).length=ks.length:=by simp[dW]
def yf{ks:List Nat}{i k:Nat}(h:ks[i]?=some k):∃r,(dW ks).drop i=bv (k:Nat)::r:=by
 have aA:=(dw.1 h).1;refine⟨(dW ks).drop (i+1),?_⟩;rw[gI (by simpa [dW] using aA)];have:=(dw.1 h).2;simp[dW,this]
def Dw(x:Nd):(dv x)[5]?=some (bv x.size):=rfl
def R6(x:Nd):(dv x)[0]?=some (co x.kind):=rfl
def AK{U:St}{R:bi}{v:AV}{l:List Nd}{i:Nat}{t:Tre}(hv:jE U v l)(ht:dP l i t)(hl:l.length<=100000)
 (h:∀aa v',gi U aa v' 3 1 t.kids.length (dW (bH (i+1) t.kids))->R (.ret v') aa):ag K 67 [v,bv (i:Nat)] U R:=by
 refine acm ?_;dsimp only[adP,bg,ak,gX,aQ,ah,ar,ca,eN,ej,aC];have hle:=ht.le;have p6:=lQ t;rw[cF];refine⟨aX d6 d6,?_⟩;obtain⟨x,hx,_,Uh,_⟩:=ht.oS;refine⟨λm v0 v1 v5 v6 aa=>∃(ks:List Nat)(rest:List Tre)(p:Nat),m=rest.length/\v0=v/\v1=bv (i:Nat)/\v6=bv (p:Nat)/\gi U aa v5 3 1 ks.length (dW ks)/\sf l p rest/\ks++bH p rest=bH (i+1) t.kids/\p+(Tre.cH rest).length=i+t.flat.length/\ks.length+i<p,
  ⟨_,[],t.kids,i+1,rfl,rfl,rfl,rfl,.nil (dt.refl _),ht.kids,rfl,d6,d8⟩,?_⟩
 rintro m v0 v1 v5 v6 aK ⟨ks,rest,p,rfl,rfl,rfl,rfl,hg,ra,ju,hp,kH⟩;have Uk:=hv.tT hg.ex;refine wK Uk hx (Dw x) ?_;rw[cF,Uh];refine⟨aX d6 d6,?_⟩;simp only[aY,ad,bp];refine⟨λaA=>?_,λgL=>?_⟩
 . cases rest with
   | nil=>simp at hp;omega
   | cons s rest =>
     obtain⟨y,hy,_,hsy,_⟩:=ra.head.oS;have Dc:=s.eC;have p8:=ra.head.le;refine EI rfl rfl ?_;refine yC hg (m:=1) (l2:=[bv (p:Nat)]) rfl rfl d6 d6 λaV v' g2 k2=>?_;have Fc:=hv.tT g2.ex;refine wK Fc hy (Dw y) ?_;rw[cF,hsy];refine⟨aX d6 d6,rest.length,d8,ks++[p],rest,p+s.flat.length,rfl,rfl,rfl,d8,by simpa [dW] using g2,ra.tail,by rw[<-ju];simp[bH],by simp at hp;omega,by simp;omega⟩
 . cases rest with
   | cons s rest=>have:=s.eC;simp at hp;omega
   | nil =>
     simp only[bH,iM]at ju;subst ju;refine aq.mk (h _ _ ?_);have:(bH (i+1) t.kids).length=t.kids.length:=iw _ _;rw[<-this];exact hg
def afy{U:St}{R:bi}{v:AV}{l:List Nd}(hv:jE U v l)(hl:l.length<=100000)
 (hT:Bh l->R (.ret ce) U) (hF:¬ Bh l->R (.ret ci) U):ag K 70 [v] U R:=by
 refine acp ?_;dsimp only[adS,lN,Bf,CD,HV,fe,bg,ak,mR,fU,aQ,ah,ar,ca,eN,cJ,bX];simp only[hv.len,ad,aN,aF];cases tY:l with
 | nil =>
   subst tY;simp only[nQ,show decide (((0:Nat):Int)=0) from rfl,show (true==false)=false from rfl,aw,bB,av,if_true,ad,aL];exact aq.mk (hF λh=>h.1.1 rfl)
 | cons x0 r0 =>
   have cD:l≠[]:=by rw[tY];simp
   have hx0:l[0]?=some x0:=by rw[tY];rfl
   have wS:oD l=x0.size:=by rw[tY];rfl
   rw[<-tY];have hlp:0<l.length:=List.length_pos_iff.2 cD;have:¬ ((l.length:Int)=0):=by omega
   simp only[this,cZ,eG];refine fD (aaO (i:=0) hv hx0 (Dw x0) ?_);refine fD (ac6 hv ?_);rw[ck];refine fD ?_;simp only[av,bW,if_false,ad]
   by_cases h0:x0.size=l.length
   . simp only[h0,cC,cL,aG];refine⟨λm v0 v3 aa=>∃i:Nat,m=l.length-i/\v0=v/\v3=bv (i:Nat)/\aa=U/\i<=l.length/\∀j x,j<i->l[j]?=some x->1<=x.size/\x.size<=(l.length:Int)-j,⟨_,0,rfl,rfl,rfl,rfl,d6,λj x h=>by omega⟩,?_⟩;rintro m v0 v3 aa ⟨i,rfl,rfl,rfl,rfl,hi,hj⟩;simp only[hv.len,ad,aY,bp];refine⟨λaA=>?_,λgL=>?_⟩
     . have aA:i<l.length:=by omega
       obtain⟨x,hx⟩:∃x,l[i]?=some x:=⟨l[i],by simp[aA]⟩;refine wK hv hx (Dw x) ?_;rw[aY];simp only[ad,aF]
       by_cases h1:x.size<1
       . simp only[h1,cC,show (true==false)=false from rfl,aw,bB,av,if_true,ad,aL];exact aq.mk (hF λh=>by have:=(h.1.2.2 i x hx).1;omega)
       . simp only[h1,cZ,eG];refine fD (fD (aaO hv hx (Dw x) ?_));refine fD (ac6 hv ?_);refine fD ?_;rw[jA,il];refine lS ⟨aX d6 d6,?_⟩;rw[ao,dq];refine fD ?_;simp only[av,bW,if_false,ad,bp];refine⟨λh2=>aq.mk (hF λh=>by have:=(h.1.2.2 i x hx).2;omega),λh2=>?_⟩;rw[cF];refine⟨aX d6 d6,l.length-(i+1),d6,i+1,rfl,rfl,d8,rfl,d6,λj y wQ hy=>?_⟩;rcases ik j i with h|h
         . exact hj j y h hy
         . have:j=i:=by omega
           subst this;rw[hx]at hy;cases hy;omega
     . have hi:i=l.length:=by omega
       subst hi;have yd:CI l:=⟨cD,by rw[wS,h0],λj x hx=>hj j x (dw.1 hx).1 hx⟩;clear hj gL;refine⟨λm w0 v4 aV=>∃i:Nat,m=l.length-i/\w0=v0/\v4=bv (i:Nat)/\aV=aa/\i<=l.length/\∀(j:Nat)x,j<i->l[j]?=some x->rV l (j+x.size.toNat) l.length (j+1)=j+x.size.toNat,⟨_,0,rfl,rfl,rfl,rfl,d6,λj x h=>by omega⟩,?_⟩;rintro m w0 v4 aV ⟨i,rfl,rfl,rfl,rfl,hi,hj⟩;simp only[hv.len,ad,aY,bp];refine⟨λaA=>?_,λgL=>?_⟩
       . have aA:i<l.length:=by omega
         obtain⟨x,hx⟩:∃x,l[i]?=some x:=⟨l[i],by simp[aA]⟩;have Uh:=yd.2.2 i x hx;rw[cF];refine⟨aX d6 d6,?_⟩;refine⟨λm u0 v4 v5 bG=>∃p f:Nat,m=f/\u0=w0/\v4=bv (i:Nat)/\v5=bv (p:Nat)/\bG=aV/\p<=l.length/\l.length-p<=f/\rV l (i+x.size.toNat) f p=rV l (i+x.size.toNat) l.length (i+1),⟨_,i+1,l.length,rfl,rfl,rfl,rfl,rfl,d6,d6,rfl⟩,?_⟩;rintro m u0 v4 v5 bG ⟨p,f,rfl,rfl,rfl,rfl,rfl,hp,hf,hw⟩;refine wK hv hx (Dw x) ?_;rw[cF];refine⟨aX d6 d6,?_⟩;simp only[ad,aY,bp];refine⟨λoy=>?_,λhpg=>?_⟩
         . have ajS:p<l.length:=by omega
           obtain⟨y,hy⟩:∃y,l[p]?=some y:=⟨l[p],by simp[ajS]⟩;have hsy:=yd.2.2 p y hy;refine wK hv hy (Dw y) ?_;rw[cF];refine⟨aX d6 d6,?_⟩;cases m with
           | zero=>omega
           | succ f =>
           rw[xv hy d6]at hw;exact⟨f,d6,p+y.size.toNat,f,rfl,rfl,rfl,by congr 1;omega,rfl,d6,d6,hw⟩
         . rw[xw d6]at hw;refine wK hv hx (Dw x) ?_;rw[cF];refine⟨aX d6 d6,?_⟩;simp only[ad,ck]
           by_cases Cu:(p:Int)=i+x.size
           . simp only[Cu,cC,cL,aG];rw[cF];refine⟨aX d6 d6,l.length-(i+1),d6,i+1,rfl,rfl,d8,rfl,d6,λj z wQ hz=>?_⟩;rcases ik j i with h|h
             . exact hj j z h hz
             . have:j=i:=by omega
               subst this;rw[hx]at hz;cases hz;rw[<-hw];omega
           . simp only[Cu,cZ,dS,aL];exact aq.mk (hF λh=>Cu (by have:=h.2 i x hx;omega))
       . have hi:i=l.length:=by omega
         subst hi;exact aq.mk (hT ⟨yd,λj x hx=>hj j x (dw.1 hx).1 hx⟩)
   . simp only[h0,cZ,dS,aL];exact aq.mk (hF λh=>h0 (by rw[<-wS];exact h.1.2.1))
def Ux{out:List Nat}{k x:Nat}(h:k<out.length):ax (dW out) k (al (bv ((x:Nat):Int)))=dW (out.set k x):=by
 simp only[ax,Jc,dW,jm,nQ];rw[List.map_set,List.set_eq_take_append_cons_drop,if_pos (by simpa using h)];simp
def aiT{K':AV->Prop}{U:St}{v:AV}{ks:List Nat}{i k:Nat}(hv:dz v ks.length (dW ks))(hk:ks[i]?=some k)(h:K' (bv (k:Nat))) :
 bC K (bJ (some (3,1)) none v (bv (i:Nat))) λp=>bC K (bj (some (false,1)) p U) K':=by
 have aA:=(dw.1 hk).1;obtain⟨c,rfl,nx⟩:=hv.at (sz:=1) (e:=3) aA;obtain⟨r,hr⟩:=yf hk;rw[nx,Nat.mul_one,hr];exact⟨d6,h⟩
def ahx{K':am}{Kp:am}{U:St}{v:AV}{ks:List Nat}{i k:Nat}(hv:dz v ks.length (dW ks))(hk:ks[i]?=some k)(h:K' (bv (k:Nat)) U) :
 (bJ (some (3,1)) none v (bv (i:Nat))).wp K U (λp U=>(bj (some (false,1)) p U).wp K U K' Kp) Kp:=by
 have aA:=(dw.1 hk).1;obtain⟨c,rfl,nx⟩:=hv.at (sz:=1) (e:=3) aA;obtain⟨r,hr⟩:=yf hk;rw[nx,Nat.mul_one,hr];exact⟨d6,h⟩
def aas{U:St}{R:bi}{v:AV}{t:Tre}(hv:jE U v t.flat)(hl:t.flat.length<=60000)
 (h:∀b aa,U.live b=none->aa.box b=some (dW (qU 0 t))->dt U aa->R (.ret (.ms b 0 t.flat.length 1 3)) aa):ag K 73 [v] U R:=by
 refine acs ?_;dsimp only[adV,ae,ak,fU,oR,aQ,ah,ar,ca,cJ,cn,aC,CE,kT,mz];simp only[hv.len,ad,xl,if_true,wp_cond,my];refine⟨by simp only[true_and];omega,λb hb=>?_⟩;have hDl:=zB 0 t;have hz:bZ ((t.flat.length:Int)).toNat [bv 0]=dW (List.replicate t.flat.length 0):=by
  rw[ez];simp only[dW,List.map_replicate];generalize t.flat.length=n
  induction n with
  | zero=>rfl
  | succ n ih=>rw[List.replicate_succ,<-ih];rfl
 rw[hz];simp only[NV.at,ez];have gz:(U.new b (.box (dW (List.replicate t.flat.length 0)))).box b=some (dW (List.replicate t.flat.length 0)):=aH;have e1:=bK hb (x:=.box (dW (List.replicate t.flat.length 0)));have f1:=hb.1;generalize U.new b (.box (dW (List.replicate t.flat.length 0)))=aK at *;let P (i j:Nat):Prop:=j=0\/∃i' s',i'<i/\dP t.flat i' s'/\j∈bH (i'+1) s'.kids;have hD0:(qU 0 t)[0]?=some 0:=by cases t;simp[Af]
 refine⟨λm v0 v3 v4 aa=>∃(i:Nat)(out:List Nat),m=t.flat.length-i/\v0=v/\v3=.ms b 0 t.flat.length 1 3/\v4=bv (i:Nat)/\i<=t.flat.length/\aa.box b=some (dW out)/\out.length=t.flat.length/\dt U aa/\∀j,j<t.flat.length->P i j->out[j]?=(qU 0 t)[j]?,
  ⟨_,0,List.replicate t.flat.length 0,rfl,rfl,rfl,rfl,d6,gz,d8,e1,λj hj hp=>?_⟩,?_⟩
 . rcases hp with rfl|⟨i',_,mE,_⟩
   . rw[hD0];simp[hj]
   . omega
 clear gz e1;rintro m w v3 v4 aV ⟨i,out,rfl,rfl,rfl,rfl,hi,mC,JC,e2,hP⟩;have Fc:=hv.tT e2;simp only[Fc.len,ad,aY,bp];refine⟨λaA=>?_,λgL=>?_⟩
 . have aA:i<t.flat.length:=by omega
   obtain⟨⟨s,e,hs,hDe,hDk,hei⟩,ajR⟩:=place t aA;have E9:out[i]?=some e:=by
    rw[hP i aA ?_,hDe];rcases ajR with h|⟨i',s',h1,h2,h3⟩
    . exact .inl h
    . exact .inr ⟨i',s',h1,h2,h3⟩
   have p8:=hs.le;have xZ:=Tre.pA s.kids;have hsf:=lQ s;refine AK Fc hs d6 λbG v5 g3=>?_;have kH:(bH (i+1) s.kids).length=s.kids.length:=iw _ _;have Ul:dz v5 (bH (i+1) s.kids).length (dW (bH (i+1) s.kids)):=by rw[kH];exact g3.sl
   have agO:∀k∈bH (i+1) s.kids,i<k/\k<t.flat.length:=by
    have:∀(ts:List Tre)(p:Nat),sf t.flat p ts->∀k∈bH p ts,p<=k/\k<t.flat.length:=by
     intro ts
     induction ts with
     | nil=>intro p _ k hk;simp[bH]at hk
     | cons u ts ih =>
       intro p ra k hk;simp only[bH,dy]at hk;rcases hk with rfl|hk
       . have:=ra.head.le;have:=u.eC;omega
       . have:=ih _ ra.tail k hk;omega
    intro k hk;have:=this _ _ hs.kids k hk;omega
   simp only[bh];generalize ju:bH (i+1) s.kids=ks at *;have e3:=e2.trans g3.ex;have agt:=g3.ex.bq mC;refine⟨λm w0 w3 w4 w5 w6 aa=>∃(q:Nat)(BP:List Nat),m=ks.length-q/\w0=w/\w3=.ms b 0 t.flat.length 1 3/\w4=bv (i:Nat)/\w5=v5/\w6=bv (q:Nat)/\q<=ks.length/\aa.box b=some (dW BP)/\BP.length=t.flat.length/\dt U aa/\BP[i]?=some e/\(∀j,j<t.flat.length->P i j->BP[j]?=(qU 0 t)[j]?)/\∀q' j,q'<q->ks[q']?=some j->BP[j]?=some (e+1),
    ⟨_,0,out,rfl,rfl,rfl,rfl,rfl,rfl,d6,agt,JC,e3,E9,hP,λq' j h=>by omega⟩,?_⟩
   clear agt e3 mC hP E9 JC;rintro m w0 w3 w4 w5 w6 cI ⟨q,BP,rfl,rfl,rfl,rfl,rfl,rfl,hq,mC,JC,e4,E9,hP,hQ⟩;have ail:dK (some false) w5=.val (bv ks.length):=Ul.len;simp only[ail,ad,aY,bp];refine⟨λnH=>?_,λajE=>?_⟩
   . have nH:q<ks.length:=by omega
     obtain⟨ir,xY⟩:∃ir,ks[q]?=some ir:=⟨ks[q],by simp[nH]⟩;have GX:=agO ir (fT xY);refine aiT Ul xY ?_;rw[K9];refine⟨⟨d6,d6,rfl⟩,?_⟩;obtain⟨r,hr⟩:=yf E9;rw[nM mC,ez,Nat.mul_one,cK,hr,gg,BZ];refine⟨aX d6 d6,?_⟩;rw[K9];refine⟨⟨d6,d6,rfl⟩,?_⟩;rw[ez,Nat.mul_one,cK,cV mC];refine⟨⟨rfl,rfl,by rw[Uw];omega⟩,?_⟩;have Bt:=Ux (out:=BP) (k:=ir) (x:=e+1) d6;rw[show (((e+1:Nat):Int))=(e:Int)+1 by omega]at Bt;rw[Bt,cF];refine⟨aX d6 d6,ks.length-(q+1),d6,q+1,BP.set ir (e+1),rfl,rfl,rfl,rfl,rfl,d8,nH,aZ,by simpa using JC,e4.set f1,?_,λj hj hp=>?_,λq' j hq' hj=>?_⟩
     . rw[List.getElem?_set_ne d6];exact E9
     . by_cases GW:ir=j
       . subst GW;rw[List.getElem?_set_self d6];exact (hDk.bH ir (by rw[ju];exact fT xY)).symm
       . rw[List.getElem?_set_ne GW];exact hP j hj hp
     . by_cases GW:ir=j
       . subst GW;rw[List.getElem?_set_self d6]
       . rw[List.getElem?_set_ne GW];rcases ik q' q with h|h
         . exact hQ q' j h hj
         . have:q'=q:=by omega
           subst this;rw[xY]at hj;cases hj;exact absurd rfl GW
   . have hq:q=ks.length:=by omega
     subst hq;rw[cF];refine⟨aX d6 d6,t.flat.length-(i+1),d6,i+1,BP,rfl,rfl,rfl,d8,aA,mC,JC,e4,λj hj hp=>?_⟩;rcases hp with hp|⟨i',s',h1,h2,h3⟩
     . exact hP j hj (.inl hp)
     . rcases ik i' i with h|h
       . exact hP j hj (.inr ⟨i',s',h,h2,h3⟩)
       . have:i'=i:=by omega
         subst this;have:=h2.inj hs;subst this;have hm:j∈ks:=by rw[<-ju];exact h3
         obtain⟨q',hq',Mt⟩:=List.getElem_of_mem hm;rw[hQ q' j hq' (by rw[<-Mt];simp)];exact (hDk.bH j h3).symm
 . have hi:i=t.flat.length:=by omega
   subst hi;have:out=qU 0 t:=by
    refine List.ext_getElem? λj=>?_;rcases ik j t.flat.length with hj|hj
    . refine hP j hj ?_;rcases (place t hj).2 with h|⟨i',s',h1,h2,h3⟩
      . exact .inl h
      . exact .inr ⟨i',s',d6,h2,h3⟩
    . rw[pn d6,pn d6]
   subst this;exact aq.mk (h b aV f1 mC e2)
def jd(b:Bool):cq (.az []) b=.bool false:=by cases b<;>rfl
def Kf(c:UInt8):Pure K 221 [co c.toNat] (.bool (lY c)):=by
 intro U R hR;refine YL ?_;simp (contextual:=true) only[YK,eh,cU,ah,ar,bX,rO,qu,aN,aY,iC,dq,eX,ad,aF,aw,ma,bO,bB,ao,av,iI,DU,bp,aL,aG,cC,cZ,ite_true,ite_false,beq_true,beq_false,cL,dS,dU,if_true,if_false,true_and,and_true,not_true,not_false_iff]
 repeat' (first|refine And.intro ?_ ?_|intro _)
 all_goals (refine aq.eq hR ?_;simp only[lY,AV.bool.injEq])
 all_goals grind
def DL(c:UInt8):Pure K 224 [co c.toNat] (.bool (fE c)):=by
 intro U R hR;refine YR ?_;simp (contextual:=true) only[YQ,eh,cU,ah,ar,bX,rO,qu,aN,aY,iC,dq,eX,ad,aF,aw,ma,bO,bB,ao,av,iI,DU,bp,aL,aG,cC,cZ,ite_true,ite_false,beq_true,beq_false,cL,dS,dU,if_true,if_false,true_and,and_true,not_true,not_false_iff]
 repeat' (first|refine And.intro ?_ ?_|intro _)
 all_goals (refine aq.eq hR ?_;simp only[fE,AV.bool.injEq])
 all_goals grind
def Vs(c:UInt8):Pure K 170 [co c.toNat] (.bool (kO c)):=by
 intro U R hR;refine XN ?_;dsimp only[XM,eh,cU,jr,wX,fe,ah,ar,bX];simp only[aN,ad]
 by_cases h:(c.toNat:Int)=10
 . simp only[h,cC,aF,show (true==false)=false from rfl,aw,bB,jd,av,if_true,ad];refine aq.eq hR ?_;simp only[kO,AV.bool.injEq]
   grind
 . simp only[h,cZ];simp (contextual:=true) only[eG,rO,qu,iC,eX,ad,aF,jd,aw,ma,bO,bB,ao,av,iI,DU,bp,cC,cZ,ite_true,ite_false,beq_true,beq_false,cL,dS,dU,if_true,if_false,true_and,and_true,bW]
   repeat' (first|refine And.intro ?_ ?_|intro _)
   all_goals (refine aq.eq hR ?_;simp only[kO,AV.bool.injEq])
   all_goals grind
def Vy(c:UInt8):Pure K 254 [co c.toNat] (.bool (lY c||BC c)):=by
 intro U R hR;refine Zv ?_;dsimp only[Zu,eh,cU,jr,wX,fe,ae,ah,bX];refine (Kf c).go ?_;cases hs:lY c with
 | true =>
   rw[hs]at hR;simp only[aF,show (true==false)=false from rfl,aw,bB,jd,av,if_true,ad];exact aq.mk hR
 | false =>
   rw[hs]at hR;simp (contextual:=true) only[eG,rO,qu,iC,eX,ad,aF,aw,ma,bO,bB,ao,av,iI,DU,bp,cC,cZ,ite_true,ite_false,beq_true,beq_false,cL,dS,dU,if_true,if_false,true_and,and_true,bW]
   repeat' (first|refine And.intro ?_ ?_|intro _)
   all_goals (refine aq.eq hR ?_;simp only[BC,AV.bool.injEq])
   all_goals grind
def QG{s:aT}{q:UInt8->Bool}{p i:Nat}(hpi:p<=i)(hi:i<=s.length)(cg:∀j(hj:j<s.length),p<=j->j<i->q s[j])(xT:∀h:i<s.length,q s[i]=false):(s.drop p).takeWhile q=(s.take i).drop p:=by
 have e:s.drop p=(s.take i).drop p++s.drop i:=by
  conv=>lhs;rw[<-List.take_append_drop i s]
  rw[List.drop_append,List.length_take,Nat.min_eq_left hi,show p-i=0 by omega,eR]
 have h1:((s.take i).drop p).takeWhile q=(s.take i).drop p:=wI λx hx=>by
  obtain⟨j,hj,rfl⟩:=List.getElem_of_mem hx;simp only[List.length_drop,List.length_take]at hj;rw[List.getElem_drop,List.getElem_take];exact cg (p+j) d6 d6 d6
 rw[e,List.takeWhile_append,h1];simp only[if_true];rcases ik i s.length with h|h
 . rw[gI h,om,xT h];simp
 . rw[List.drop_eq_nil_of_le h];simp
def SB(s:aT)(p:Nat)(hp:p<=s.length)(hs:s.length<=100000):Pure K 220 [.str s,bv (p:Nat)] (.str ((s.drop p).takeWhile dp)):=by
 intro U R hR;refine YJ ?_;dsimp only[YI,lM,zgp,cU,ql,wW,fe,KF,ak,fU,aQ,ah,ar,ca,bX,aC];refine⟨λm v0 v1 v5 aa=>∃i:Nat,m=s.length-i/\p<=i/\i<=s.length/\v0=.str s/\v1=bv (p:Nat)/\v5=bv i/\aa=U/\∀j(hj:j<s.length),p<=j->j<i->dp s[j],⟨_,p,rfl,da _,hp,rfl,rfl,rfl,rfl,λj hj h1 h2=>by omega⟩,?_⟩;rintro m v0 v1 v5 aa ⟨i,rfl,hpi,hi,rfl,rfl,rfl,rfl,cg⟩;have fin:(∀h:i<s.length,dp s[i]=false)->(eI true none (.str s) (some (bv (p:Nat))) (some (bv (i:Nat)))).wp K aa (λv28 U=>aq R v28 U) (aD R):=λxT=>by
  simp only[nz,kj,gp,wp_cond,ad,ez];refine⟨⟨d6,d6,d6⟩,?_⟩;rw[QG hpi hi cg xT]at hR;exact aq.mk hR
 simp only[ia,ad,aY,aF,aw]
 by_cases aA:i<s.length
 . have ng:(i:Int)<s.length:=by omega
   simp only[ng,cC,eG,bO,ao,vN,iI,ez,getD_at aA];refine⟨d8,_,Vy s[i],?_⟩;have step:dp s[i]->(bU .add (BT.mk false false false none false) true (bv (i:Nat)) (bv 1)).wp K aa (λv24 U=>Fn.lam 3 (λvs U=>∃m',m'<s.length-i/\Fn.app 3 (λv0 v1 v5 jn=>∃i:Nat,m'=s.length-i/\p<=i/\i<=s.length/\v0=.str s/\v1=bv (p:Nat)/\v5=bv i/\jn=aa/\∀j(hj:j<s.length),p<=j->j<i->dp s[j]) vs U) (.str s) (bv (p:Nat)) v24 U) (aD R):=λha=>by
    rw[cF];refine⟨aX d6 d6,s.length-(i+1),d6,i+1,rfl,d6,d6,rfl,rfl,d8,rfl,λj hj h1 h2=>?_⟩;rcases ik j i with h|h
    . exact cg j hj h1 h
    . have:j=i:=by omega
      subst this;exact ha
   cases hl:lY s[i]||BC s[i] with
   | true =>
     have ha:dp s[i]:=by unfold dp;rw[Bool.or_assoc,hl];simp
     simp only[aF,aw,show (true==false)=false from rfl,bB,av,if_true,ao,ad,aL];exact step ha
   | false =>
     simp only[aF,aw,eG,bO,vN,ao,iI,ez,getD_at aA];refine⟨d6,_,DL s[i],?_⟩;have ha:dp s[i]=fE s[i]:=by unfold dp;rw[Bool.or_assoc,hl];simp
     simp only[av,bW,if_false,if_true,ao,ad];cases hd:fE s[i] with
     | true=>simp only[aL];exact step (ha.trans hd)
     | false=>simp only[aG];exact fin λ_=>ha.trans hd
 . have ng:¬ (i:Int)<s.length:=by omega
   simp only[ng,cZ,show (false==true)=false from rfl,bB,jd,av,bW,if_false,ao,ad,aw,aG];exact fin λh=>absurd h aA
def Sy(s:aT)(p:Nat)(hp:p<=s.length)(hs:s.length<=100000):Pure K 171 [.str s,bv (p:Nat)] (.str ((s.drop p).takeWhile λc=>c.toNat≠10)):=by
 intro U R hR;refine XP ?_;dsimp only[XO,eh,cU,ql,ak,fU,aQ,ah,ar,ca,bX,aC];refine⟨λm v0 v1 v5 aa=>∃i:Nat,m=s.length-i/\p<=i/\i<=s.length/\v0=.str s/\v1=bv (p:Nat)/\v5=bv i/\aa=U/\∀j(hj:j<s.length),p<=j->j<i->(decide (s[j].toNat≠10)),⟨_,p,rfl,da _,hp,rfl,rfl,rfl,rfl,λj hj h1 h2=>by omega⟩,?_⟩;rintro m v0 v1 v5 aa ⟨i,rfl,hpi,hi,rfl,rfl,rfl,rfl,cg⟩;have fin:(∀h:i<s.length,(decide (s[i].toNat≠10))=false)->(eI true none (.str s) (some (bv (p:Nat))) (some (bv (i:Nat)))).wp K aa (λv28 U=>aq R v28 U) (aD R):=λxT=>by
  simp only[nz,kj,gp,wp_cond,ad,ez];refine⟨⟨d6,d6,d6⟩,?_⟩;rw[QG (q:=λc=>c.toNat≠10) hpi hi cg xT]at hR;exact aq.mk hR
 simp only[ia,ad,aY,aF,aw]
 by_cases aA:i<s.length
 . have ng:(i:Int)<s.length:=by omega
   simp only[ng,cC,eG,bO,ao,vN,iI,ez,getD_at aA,ck,av,if_true,ad];refine⟨d8,?_⟩
   by_cases n0:s[i].toNat=10
   . have:((s[i].toNat:Int)=10):=by omega
     simp only[this,cC,cL,aG];exact fin λ_=>by simp[n0]
   . have:¬ ((s[i].toNat:Int)=10):=by omega
     simp only[this,cZ,dS,aL,cF];refine⟨aX d6 d6,s.length-(i+1),d6,i+1,rfl,d6,d6,rfl,rfl,d8,rfl,λj hj h1 h2=>?_⟩;rcases ik j i with h|h
     . exact cg j hj h1 h
     . have:j=i:=by omega
       subst this;simp[n0]
 . have ng:¬ (i:Int)<s.length:=by omega
   simp only[ng,cZ,show (false==true)=false from rfl,bB,jd,av,bW,if_false,ao,ad,aw,aG];exact fin λh=>absurd h aA
def Vw(c:nj)(l:List aT)(s:aT)(hn:l.length<=100000):Pure K 222 [.vec l.length c (l.map .str),.str s] (.bool (decide (s∈l))):=by
 intro U R hR;refine YN ?_;dsimp only[YM,di,ak,fU,aQ,ah,ar,ca,cJ];refine⟨λm v0 v1 v5 aa=>∃i:Nat,m=l.length-i/\i<=l.length/\v0=.vec l.length c (l.map .str)/\v1=.str s/\v5=bv i/\aa=U/\∀j,j<i->l[j]?≠some s,⟨_,0,rfl,d6,rfl,rfl,rfl,rfl,λj hj=>by omega⟩,?_⟩;rintro m v0 v1 v5 aa ⟨i,rfl,hi,rfl,rfl,rfl,rfl,iV⟩;simp only[u1,aY,ad,bp];refine⟨λaA=>?_,λgL=>?_⟩
 . have aA:i<l.length:=by omega
   have hd:(l.map AV.str).drop ((i:Int).toNat*1)=.str l[i]::(l.map AV.str).drop (i+1):=by
    rw[ez,Nat.mul_one,gI (by simpa using aA)];simp
   rw[sv];refine⟨d6,?_⟩;rw[hd,ln,bI];simp only[hU,ad,bp];refine⟨λhe=>?_,λcD=>?_⟩
   . refine aq.eq hR ?_;have:s∈l:=he▸vd aA;simp[this]
   . rw[cF];refine⟨aX d6 d6,l.length-(i+1),d6,i+1,rfl,d6,rfl,rfl,d8,rfl,λj hj=>?_⟩;rcases ik j i with h|h
     . exact iV j h
     . have:j=i:=by omega
       subst this;rw[mP aA];simpa using cD
 . refine aq.eq hR ?_;have:s∉l:=λhm=>by
    obtain⟨j,hj,he⟩:=List.getElem_of_mem hm;exact iV j d6 (by rw[mP hj,he])
   simp[this]
def abM(s w:aT)(p:Nat)(hp:p<=s.length)(hs:s.length<=100000)(hw:w.length<=100000):Pure K 227 [.str s,bv (p:Nat),.str w] (.bool (w.isPrefixOf (s.drop p))):=by
 intro U R hR;refine YX ?_;dsimp only[YW,qk,cU,ql,ah,ca,bX,aC];simp only[ia,ad,s0,eX,aF,aw];refine⟨aX d6 d6,?_⟩
 by_cases hl:(w.length:Int)<=(s.length:Int)-(p:Int)
 . simp only[hl,cC,eG,bO,ao,iI,ia,BZ];refine⟨aX d6 d6,?_⟩;simp only[nz,kj,gp,jB,ao,ez];refine⟨⟨d6,d6,d6⟩,?_⟩;simp only[hU,ao,av,if_true,ad];refine aq.eq hR ?_;have e:((p:Int)+(w.length:Int)).toNat=p+w.length:=by omega
   rw[e];have e2:(s.take (p+w.length)).drop p=(s.drop p).take w.length:=by rw[List.drop_take];congr 1;omega
   rw[e2];congr 1;rw[oN,dU,List.isPrefixOf_iff_prefix,List.prefix_iff_eq_take];exact eq_comm
 . simp only[hl,cZ,show (false==true)=false from rfl,bB,av,bW,if_false,ad];refine aq.eq hR ?_;refine congrArg AV.bool (?_:false=_);rw[eq_comm,Bool.eq_false_iff];intro h;have:=(List.isPrefixOf_iff_prefix.1 h).length_le;simp at this;omega
def TV(h:0<s.length):s.head?=some s[0]:=by
 cases s with
 | nil=>simp at h
 | cons c r=>rfl
def Vz(s:aT)(hs:s.length<=100000):Pure K 225 [.str s] (bv (mO s)):=by
 intro U R hR;refine YT ?_;dsimp only[YS,eh,cU,ql,jr,wX,fe,ae,ak,fU,aQ,ah,ar,ca,bX,fW,aC];refine⟨λm v0 v3 v4 aa=>∃i:Nat,m=s.length-i/\i<=s.length/\v0=.str s/\v3=bv (kx 0 (s.take i))/\v4=bv i/\aa=U/\(s.take i).all fE/\(1<i->s.head?≠some 48),⟨s.length,0,by simp[Fn.app,kx]⟩,?_⟩;rintro m v0 v3 v4 aa ⟨i,rfl,hi,rfl,rfl,rfl,rfl,cg,hh⟩;have hb:=Ev (s.take i) 0 d6;have wg:=u6 (s.take i) 0 cg d6;simp only[ia,ad,aY,bp];refine⟨λaA=>?_,λgL=>?_⟩
 . have aA:i<s.length:=by omega
   rw[sZ];refine⟨d6,?_⟩;rw[ez,getD_at aA];refine (DL s[i]).go ?_;have ji:s.take (i+1)=s.take i++[s[i]]:=by rw[nP,mP aA];rfl
   have h0:s.getD (0:Int).toNat 0=s[0]:=getD_at d6;have hhd:=TV (s:=s) d6;simp only[db,ad];cases hd:fE s[i] with
   | false =>
     simp only[dS,aF,show (true==false)=false from rfl,aw,bB,jd,av,if_true,ad,aL];refine aq.eq hR ?_;have:s.all fE=false:=by
      rw[Bool.eq_false_iff];intro h;rw[fQ]at h;rw[h s[i] (vd aA)]at hd;cases hd
     simp[mO,this]
   | true =>
     have hc:=lA.1 hd;have step:(1<i+1->s.head?≠some 48)->(bU .mul (BT.mk false false false none false) true (bv 10) (bv (kx 0 (s.take i)))).wp K aa (λZY U =>
      (fL true none none (.str s) (bv (i:Nat))).wp K U (λsd U =>
      (bU .sub (BT.mk false false false none false) true sd (co 48)).wp K U (λv30 U =>
      (xh (some .i64) true false false v30).wp K U (λv31 U =>
      (bU .add (BT.mk false false false none false) false ZY v31).wp K U (λyz U =>
      (zM yz (bv 1000001)).wp K U (λzp U =>
      (bU .add (BT.mk false false false none false) true (bv (i:Nat)) (bv 1)).wp K U (λv10 U =>
      Fn.lam 3 (λvs U=>∃m',m'<s.length-i/\Fn.app 3 (λv0 v3 v4 jn=>∃i:Nat,m'=s.length-i/\i<=s.length/\v0=.str s/\v3=bv (kx 0 (s.take i))/\v4=bv i/\jn=aa/\(s.take i).all fE/\(1<i->s.head?≠some 48)) vs U) (.str s) zp v10 U) (aD R)) (aD R)) (aD R)) (aD R)) (aD R)) (aD R)) (aD R):=λhh'=>by
      rw[SU];refine⟨aX d6 d6,?_⟩;rw[sZ];refine⟨d6,?_⟩;rw[ez,getD_at aA];have hw:IntKind.u8.wrap ((s[i].toNat:Int)-48)=(s[i].toNat:Int)-48:=by
       show ((s[i].toNat:Int)-48)%256=_;omega
      simp only[jA,FE,ad,hw,xh,wp_cond,cF,Qf];refine⟨aX d6 d6,aX d6 d6,aX d6 d6,?_⟩;refine⟨s.length-(i+1),d6,i+1,rfl,d6,rfl,?_,d8,rfl,?_,hh'⟩
      . rw[J6 aA];congr 1;omega
      . rw[ji,List.all_append,cg];simp[hd]
     simp only[cL,aF,eG,aw,bO,ao,dq,iI]
     by_cases sE:0<i
     . have:((i:Int) > 0):=by omega
       simp only[show ((0:Int)<(i:Nat)) from this,cC,eG,bO,ao,vN,h0,aN,iI,av,bW,if_false,if_true,ad,bp];refine⟨⟨d6,d6⟩,λJm=>?_,λJm=>?_⟩
       . refine aq.eq hR ?_;have e48:s[0]=48:=UInt8.toNat_inj.1 (show s[0].toNat=(48:UInt8).toNat by show s[0].toNat=48;omega);have h1:1<s.length:=by omega
         by_cases ha:s.all fE=false
         . simp[mO,ha]
         . simp[mO,ha,hhd,e48,h1]
       . refine step λ_ h=>Jm ?_;rw[hhd]at h;have:s[0]=48:=by simpa using h
         rw[this];rfl
     . have:¬ ((0:Int)<(i:Nat)):=by omega
       simp only[this,cZ,show (false==true)=false from rfl,bB,jd,av,bW,if_false,ao,ad,aG];exact step λh=>by omega
 . have hi:i=s.length:=by omega
   subst hi;rw[oO]at cg hb wg ⊢;have hv:Iy s=kx 0 s:=rfl;simp only[dq,ad,bp];have hn:¬ (1<s.length/\s.head?=some 48):=λh=>hh h.1 h.2;refine⟨λhm=>?_,λhm=>?_⟩
   . refine aq.eq hR ?_;simp only[mO,cg,hn,hv,if_false,Bool.true_eq_false];rw[if_pos d6]
   . refine aq.eq hR ?_;simp only[mO,cg,hn,hv,if_false,Bool.true_eq_false];rw[if_neg d6]
variable {α:Type}
def Sp(V:PR α)(bad:Bool)(i:Nat)(W:PR α):Prop:=if bad=true then V=.bad i else V=W
structure Own (r:Nat) (aj U:St) (nb:List (Nat×List AV)):Prop where
 own:∀p∈nb,p.1≠r/\U.box p.1=some p.2/\aj.live p.1=none
 J2:(nb.map Prod.fst).Nodup
structure S2 (X:Rx) (r:Nat) (aj:St) (V:PR (List Nd)) (bad:Bool) (i:Nat) (W:PR (List Nd)) (nb:List (Nat×List AV)) (U:St):Prop where
 A:gK r (rr X i bad) aj U
 hi:i<=X.L.length
 sp:Sp V bad i W
 own:Own r aj U nb
structure xI (X:Rx) (r:Nat) (aj:St) (R:bi) (V:PR (List Nd)) (i0 c:Nat):Prop where
 ok:∀ns j,V=.ok ns j->j<=X.L.length->∀b aa,aj.live b=none->aa.box b=some (bM ns)->gK r (rr X j false) aj aa->R (.ret (.ms b 0 ns.length 6 43)) aa
 bad:∀ns j,V=.bad j->i0<=j->j<=X.L.length->ns.length<=8*(j-i0)+c->∀b aa,aj.live b=none->aa.box b=some (bM ns)->gK r (rr X j true) aj aa->R (.ret (.ms b 0 ns.length 6 43)) aa
structure Cr (X:Rx) (f:FuncId) (args:List AV) (i:Nat) (p:PR (List Nd)) (c:Nat):Prop where
 ct:∀(r:Nat)(U:St)(R:bi)(bad:Bool)(V:PR (List Nd)),U.box r=some (rr X i bad)->Sp V bad i p->xI X r U R V i c->ag K f (.box r 0::args) U R
 gd:Gd X.L.length (i+1) i p
 len:∀ns j,p=.ok ns j->ns.length+i<=j
section
variable {r:Nat}{aj U aa:St}{nb:List (Nat×List AV)}{b:Nat}{l:List AV}
def Own.jW(h:Own r aj U nb)(e:jT r U aa):Own r aj aa nb :=
 ⟨λp hp=>⟨(h.own p hp).1,e.bq (h.own p hp).1 (h.own p hp).2.1,(h.own p hp).2.2⟩,h.J2⟩
def Own.cons(h:Own r aj U nb)(e:jT r U aa)(hr:b≠r)(h0:aj.live b=none)(hn:U.live b=none)(hb:aa.box b=some l):Own r aj aa ((b,l)::nb):=by
 refine⟨λp hp=>?_,?_⟩
 . rcases dy.1 hp with rfl|hp
   . exact⟨hr,hb,h0⟩
   . exact (h.jW e).own p hp
 . rw[fh,List.nodup_cons];refine⟨λhm=>?_,h.J2⟩;obtain⟨p,hp,rfl⟩:=List.mem_map.1 hm;exact cN (h.own p hp).2.1 hn
def Own.ne{nb1 kK:List (Nat×List AV)}(h:Own r aj U (nb1++(b,l)::kK)){p:Nat×List AV}(hp:p∈nb1\/p∈kK):p.1≠b:=by
 have:=h.J2;rw[List.map_append,fh,List.nodup_append]at this;obtain⟨h1,h2,h3⟩:=this;rw[List.nodup_cons]at h2;intro e;rcases hp with hp|hp
 . exact h3 _ (List.mem_map_of_mem hp) _ (List.mem_cons_self ..) e
 . have hh:=List.mem_map_of_mem (f:=Prod.fst) hp;rw[e]at hh;exact h2.1 hh
def Own.kg{nb1 kK:List (Nat×List AV)}{l':List AV}(h:Own r aj U (nb1++(b,l)::kK))(hb:aa.box b=some l')(he:∀b',b'≠b->aa.live b'=U.live b'):Own r aj aa (nb1++(b,l')::kK):=by
 have g:=h.own (b,l) d8;refine⟨λp hp=>?_,?_⟩
 . rw[gV,dy]at hp;have old:p∈nb1\/p∈kK->p.1≠r/\aa.box p.1=some p.2/\aj.live p.1=none:=λhq=>by
    have g2:=h.own p (by rw[gV,dy];rcases hq with hq|hq;exact .inl hq;exact .inr (.inr hq))
    exact⟨g2.1,by rw[eE (he _ (h.ne hq))];exact g2.2.1,g2.2.2⟩
   rcases hp with hp|rfl|hp
   . exact old (.inl hp)
   . exact⟨g.1,hb,g.2.2⟩
   . exact old (.inr hp)
 . have:=h.J2;simpa using this
def Own.drop{nb1 kK:List (Nat×List AV)}(h:Own r aj U (nb1++(b,l)::kK)):Own r aj U (nb1++kK) :=
 ⟨λp hp=>h.own p (by rw[gV]at hp ⊢;rcases hp with hp|hp;exact .inl hp;exact .inr (List.mem_cons_of_mem _ hp)),by
   have:=h.J2;rw[List.map_append,fh]at this;rw[List.map_append];exact this.sublist (List.Sublist.append (List.Sublist.refl _) (List.sublist_cons_self ..))⟩
end
variable {args:List AV}{b1 b2 i0:Nat}
section
variable {X:Rx}{r i:Nat}{bad:Bool}{aj U:St}{V W W':PR (List Nd)}{nb:List (Nat×List AV)}{R:bi}{K':am}{Kp:am}{w:aT}
def S2.re(S:S2 X r aj V bad i W nb U)(h:bad=false->W=W'):S2 X r aj V bad i W' nb U:=by
 refine⟨S.A,S.hi,?_,S.own⟩;have:=S.sp;unfold Sp at this ⊢;cases bad with
 | true=>exact this
 | false=>simp only[bW,if_false]at this ⊢;rw[this];exact h rfl
def S2.bd(S:S2 X r aj V true i W nb U):V=.bad i:=by have:=S.sp;simpa [Sp] using this
def S2.gd(S:S2 X r aj V false i W nb U):V=W:=by have:=S.sp;simpa [Sp] using this
def S2.step{aa:St}{j:Nat}{eL:Bool}(S:S2 X r aj V bad i W nb U)(A:gK r (rr X j eL) U aa)(hj:j<=X.L.length)(h:Sp V eL j W'):S2 X r aj V eL j W' nb aa :=
 ⟨S.A.trans A,hj,h,S.own.jW A.ex⟩
def pQ(S:S2 X r aj V bad i W nb U)(h:K' (bv (cT X.L 0 i)) U):ag K 113 [.box r 0] U (bD K' Kp):=Kd S.A.box h
def fA{q:Unit->Nat->PR (List Nd)}(S:S2 X r aj V bad i ((bR X.L w i).bind q) nb U)
 (h:∀eL i' a aa,i<=i'->(eL=false->bad=false/\i'=i+1/\a=cT X.L 0 i)->S2 X r aj V eL i' (q () i') nb aa->K' (bv a) aa):ag K 116 [.box r 0,.str w] U (bD K' Kp):=by
 refine QE S.A.box w (λhb hw aa A=>?_) λhb aa A=>?_
 . subst hb;have e:(bR X.L w i).bind q=q () (i+1):=by simp[bR,hw,PR.bind]
   exact h false (i+1) _ aa d6 (λ_=>⟨rfl,rfl,rfl⟩) (S.step A (de hw) (by rw[S.gd,e];simp[Sp]))
 . refine h true i 0 aa (da _) (λh=>by cases h) (S.step A S.hi ?_);cases bad with
   | true=>rw[S.bd];simp[Sp]
   | false =>
     have hw:bP X.L i w=false:=by simpa using hb
     rw[S.gd];simp[Sp,bR,hw,PR.bind]
def fM{P Q:PR (List Nd)}(S:S2 X r aj V bad i (if bP X.L i w=true then P else Q) nb U)
 (h1:bad=false->bP X.L i w->∀aa,S2 X r aj V false (i+1) P nb aa->K' ce aa) (h2:(bad=false->bP X.L i w=false)->S2 X r aj V bad i Q nb U->K' ci U):ag K 114 [.box r 0,.str w] U (bD K' Kp):=by
 refine acK S.A.box w (λhb hw aa A=>?_) λhb=>?_
 . subst hb;exact h1 rfl hw aa (S.step A (de hw) (by rw[S.gd,if_pos hw];simp[Sp]))
 . have hf:bad=false->bP X.L i w=false:=λe=>by simpa [e] using hb
   exact h2 hf (S.re λe=>if_neg (by simp[hf e]))
def qv{q:aT->Nat->PR (List Nd)}(S:S2 X r aj V bad i ((fO X.L i).bind q) nb U)
 (h:∀eL i' x aa,i<=i'->S2 X r aj V eL i' (q x i') nb aa->K' (.str x) aa):ag K 115 [.box r 0] U (bD K' Kp):=by
 refine Ns S.A.box (λt hb ht hk aa A=>?_) λhb aa A=>?_
 . subst hb;have aA:=(dw.1 ht).1;exact h false (i+1) _ aa d6 (S.step A aA (by rw[S.gd];simp[Sp,fO,ht,hk,PR.bind]))
 . refine h true i _ aa (da _) (S.step A S.hi ?_);cases bad with
   | true=>rw[S.bd];simp[Sp]
   | false =>
     have hw:ij X.L i 1=false:=by simpa using hb
     rw[S.gd];unfold ij at hw;unfold fO;split
     . rename_i t ht;rw[ht]at hw;simp at hw;simp[Sp,hw,PR.bind]
     . simp[Sp,PR.bind]
def rq{q:Int->Nat->PR (List Nd)}(S:S2 X r aj V bad i ((js X.L i).bind q) nb U)
 (h:∀eL i' x aa,i<=i'->S2 X r aj V eL i' (q x i') nb aa->K' (bv x) aa):ag K 175 [.box r 0] U (bD K' Kp):=by
 refine Sz S.A.box (λt hb ht hk aa A=>?_) λhb aa A=>?_
 . subst hb;have aA:=(dw.1 ht).1;exact h false (i+1) _ aa d6 (S.step A aA (by rw[S.gd];simp[Sp,js,ht,hk,PR.bind]))
 . refine h true i _ aa (da _) (S.step A S.hi ?_);cases bad with
   | true=>rw[S.bd];simp[Sp]
   | false =>
     have hw:ij X.L i 2=false:=by simpa using hb
     rw[S.gd];unfold ij at hw;unfold js;split
     . rename_i t ht;rw[ht]at hw;simp at hw;simp[Sp,hw,PR.bind]
     . simp[Sp,PR.bind]
def fy{f:FuncId}{c:Nat}{p:PR (List Nd)}{q:List Nd->Nat->PR (List Nd)}(C:Cr X f args i p c)(S:S2 X r aj V bad i (p.bind q) nb U)
 (h:∀eL j ns b aa,i<=j->ns.length<=8*(j-i)+c->(eL=false->bad=false/\i<j/\ns.length+i<=j)->S2 X r aj V eL j (q ns j) ((b,bM ns)::nb) aa->jT r U aa->K' (.ms b 0 ns.length 6 43) aa):ag K f (.box r 0::args) U (bD K' (aD R)):=by
 have hrl:=cN S.A.box;have fin:∀(eL:Bool)(j:Nat)(ns:List Nd)(b:Nat)(aa:St),U.live b=none->aa.box b=some (bM ns)->gK r (rr X j eL) U aa->j<=X.L.length->Sp V eL j (q ns j)->S2 X r aj V eL j (q ns j) ((b,bM ns)::nb) aa:=by
  intro eL j ns b aa hb mC A hj hs;have cD:b≠r:=λe=>hrl (e▸hb);exact⟨S.A.trans A,hj,hs,S.own.cons A.ex cD (S.A.ex.fresh cD hb) hb mC⟩
 refine C.ct r U _ bad (if bad=true then .bad i else p) S.A.box (by unfold Sp;cases bad<;>simp) ⟨λns j e hj b aa hb mC A=>?_,λns j e eF hj hn b aa hb mC A=>?_⟩
 . cases bad with
   | true=>simp at e
   | false =>
     simp only[bW,if_false]at e;have g:=C.gd;have gl:=C.len ns j e;rw[e]at g;have h1:i<j:=g.1;refine h false j ns b aa d6 d6 (λ_=>⟨rfl,h1,gl⟩) (fin false j ns b aa hb mC A hj ?_) A.ex;rw[S.gd,e];simp[Sp,PR.bind]
 . refine h true j ns b aa eF hn (λh=>by cases h) (fin true j ns b aa hb mC A hj ?_) A.ex;cases bad with
   | true =>
     simp only[if_true,PR.bad.injEq]at e;subst e;rw[S.bd];simp[Sp]
   | false =>
     simp only[bW,if_false]at e;rw[S.gd,e];simp[Sp,PR.bind]
def Lc{kind:Int}{text:aT}{n m at_ sz:Int}{kv:AV}(kids:List (Nat×List Nd))(hm:∀p∈kids,(p.1,bM p.2)∈nb)
 (sF:kids=[]/\kv=.af\/∃c,kv=.vec kids.length c (kids.map λp=>.ms p.1 0 p.2.length 6 43)) (S:S2 X r aj V bad i W nb U)
 (hl:(kids.map Prod.snd).flatten.length<=1000000) (gk:kids.length<=100)
 (h:∀b aa,S2 X r aj V bad i W ((b,bM (node kind text n m at_ (kids.map Prod.snd).flatten))::nb) aa->dt U aa->K' (.ms b 0 (node kind text n m at_ (kids.map Prod.snd).flatten).length 6 43) aa) :
 ag K 60 [.agg [co kind,.str text,bv n,bv m,bv at_,bv sz],kv] U (bD K' (aD R)):=by
 refine M7 (vs:=kids.map λp=>.ms p.1 0 p.2.length 6 43) (nss:=kids.map Prod.snd) ?_ ?_ hl (by simpa using gk) λb aa hb mC e=>?_
 . rcases sF with ⟨rfl,rfl⟩|⟨c,rfl⟩
   . exact .inl ⟨rfl,rfl⟩
   . exact .inr ⟨c,d8⟩
 . refine⟨d8,λk v ns h1 h2=>?_⟩;rw[po]at h1 h2;cases hk:kids[k]? with
   | none=>rw[hk]at h1;cases h1
   | some p =>
     rw[hk]at h1 h2;cases h1;cases h2;exact .inr ⟨p.1,rfl,(S.own.own _ (hm p (fT hk))).2.1⟩
 . have cD:b≠r:=λe=>cN S.A.box (e▸hb);refine h b aa ⟨S.A.trans (.mV S.A.box e),S.hi,S.sp,S.own.cons e.vZ cD (S.A.ex.fresh cD hb) hb mC⟩ e
def wv{c b:Nat}(S:S2 X r aj V bad i (.ok ns i) nb U)(O:xI X r aj R V i0 c)(hm:(b,bM ns)∈nb)(hi:i0<=i)(hn:bad->ns.length<=8*(i-i0)+c):aq R (.ms b 0 ns.length 6 43) U:=by
 have g:=S.own.own _ hm;cases bad with
 | true=>exact aq.mk (O.bad ns i S.bd hi S.hi (hn rfl) b U g.2.2 g.2.1 S.A)
 | false=>exact aq.mk (O.ok ns i S.gd S.hi b U g.2.2 g.2.1 S.A)
def Nu{n1 n2:List Nd}{nb1 kK:List (Nat×List AV)}(S:S2 X r aj V bad i W (nb1++(b1,bM n1)::kK) U)(h2:(b2,bM n2)∈nb1\/(b2,bM n2)∈kK)(hl:n1.length+n2.length<=1000000)
 (h:∀b aa,S2 X r aj V bad i W ((b,bM (n1++n2))::(nb1++kK)) aa->K' (.ms b 0 (n1++n2).length 6 43) aa) {mu:Bool}:(dH (some (43,6)) mu (.ms b1 0 n1.length 6 43) (.ms b2 0 n2.length 6 43) U).wp K U K' Kp:=by
 have g1:=S.own.own (b1,bM n1) d8;have g2:=S.own.own (b2,bM n2) (by rw[gV,dy];rcases h2 with h|h;exact .inl h;exact .inr (.inr h))
 have Il:qD U (.ms b2 0 n2.length 6 43)=some (n2.length,bM n2):=by
  simp only[qD,g2.2.1,eR];rw[pO (by rw[gb];omega)]
 refine HO (sz:=6) g1.2.1 Il ⟨by rw[gb];omega,by rw[gb];omega,d6⟩ λb hf=>?_;have e0:jT r U (U.del b1)\/True:=.inr trivial;have cD:b≠r:=by
  intro e;have hd:=hf.1;rw[e,jv,if_neg (λe=>g1.1 e.symm)]at hd;exact cN S.A.box hd
 have wg:aj.live b=none:=by
  by_cases e:b=b1
  . rw[e];exact g1.2.2
  . have hd:=hf.1;rw[jv,if_neg e]at hd;exact S.A.ex.fresh cD hd
 have ah1:(bM n1).take (n1.length*6)++bM n2=bM (n1++n2):=by
  rw[vL,pO (by rw[gb];omega)]
 rw[ah1,<-dx];have ajy:Own r aj (U.del b1) (nb1++kK):=by
  refine⟨λp hp=>?_,S.own.drop.J2⟩;have hq:p∈nb1\/p∈kK:=gV.1 hp;have g:=S.own.drop.own p hp;exact⟨g.1,by rw[jF (S.own.ne hq)];exact g.2.1,g.2.2⟩
 have A1:gK r (rr X i bad) aj (U.del b1):=⟨by rw[jF (Ne.symm g1.1)];exact S.A.box,S.A.ex.del (.inl g1.2.2)⟩;refine h b _ ⟨⟨?_,A1.ex.new hf⟩,S.hi,S.sp,ajy.cons (bK hf).vZ cD wg hf.1 aH⟩;rw[pF (Ne.symm cD)];exact A1.box
def VC{l:List AV}(S:S2 X r aj V bad i W nb U)(h:∀b,S2 X r aj V bad i W ((b,l)::nb) (U.new b (.box l))->K' (.box b 0) (U.new b (.box l))):(aW.mU l).wp K U K' Kp:=by
 rw[dh];intro b hf;have cD:b≠r:=λe=>cN S.A.box (e▸hf.1);exact h b ⟨S.A.trans (.mV S.A.box (bK hf)),S.hi,S.sp,S.own.cons (bK hf).vZ cD (S.A.ex.fresh cD hf.1) hf.1 aH⟩
def AW{nb1 kK:List (Nat×List AV)}{b o n:Nat}{l:List AV}{t:Bool}{v:AV}(S:S2 X r aj V bad i W nb U)(e:nb=nb1++(b,l)::kK)(hv:v.dC/\(al v).length=n/\o+n<=l.length)(h:∀aa,S2 X r aj V bad i W (nb1++(b,ax l o (al v))::kK) aa->K' (.az []) aa):(dD (some (t,n)) (.box b o) v U).wp K U K' Kp:=by
 subst e;have g:=S.own.own (b,l) d8;rw[cV g.2.1];refine⟨hv,h _ ⟨⟨?_,S.A.ex.set (.inl g.2.2)⟩,S.hi,S.sp,S.own.kg aZ λb' hb=>by rw[eM,if_neg hb]⟩⟩;rw[bf (Ne.symm g.1)];exact S.A.box
end
variable {n1 n2:Nat}
section
variable {X:Rx}{r i:Nat}{bad:Bool}{aj U:St}{V W W':PR (List Nd)}{nb:List (Nat×List AV)}{R:bi}{K':am}{Kp:am}{k:AV->Prop}{w:aT}
def S2.same{aa:St}{b:Nat}{l:List AV}(S:S2 X r aj V bad i W nb U)(h:(b,l)∈nb)(e:jT r U aa):dR [b] U aa:=by
 intro c hc;have hc:c=b:=by simpa using hc
 subst hc;have g:=S.own.own _ h;cases hx:U.live c with
 | none=>exact absurd hx (cN g.2.1)
 | some x=>exact e c x g.1 hx
def EH(h:K' (.vec 1 .full [.ms b1 0 n1 6 43]) U):(ai (some (23,1)) (some [AV.af]) 1 false [(0,.ms b1 0 n1 6 43)]).wp K U K' Kp:=by
 rw[fN];refine⟨d6,?_⟩;rw[eg (o:=0) (s:=1) rfl];refine⟨⟨rfl,rfl,by simp[bZ]⟩,?_⟩;rw[gS];exact⟨rfl,h⟩
def aiX(h:K' (.vec 2 .full [.ms b1 0 n1 6 43,.ms b2 0 n2 6 43]) U):(ai (some (23,1)) (some [AV.af]) 2 false [(0,.ms b1 0 n1 6 43),(1,.ms b2 0 n2 6 43)]).wp K U K' Kp:=by
 rw[fN];refine⟨d6,?_⟩;rw[eg (o:=0) (s:=1) rfl];refine⟨⟨rfl,rfl,by simp[bZ]⟩,?_⟩;rw[eg (o:=1) (s:=1) rfl];refine⟨⟨rfl,rfl,by simp[bZ,ax]⟩,?_⟩;rw[gS];exact⟨rfl,h⟩
def aiY{b3 n3:Nat}(h:K' (.vec 3 .full [.ms b1 0 n1 6 43,.ms b2 0 n2 6 43,.ms b3 0 n3 6 43]) U):(ai (some (23,1)) (some [AV.af]) 3 false [(0,.ms b1 0 n1 6 43),(1,.ms b2 0 n2 6 43),(2,.ms b3 0 n3 6 43)]).wp K U K' Kp:=by
 rw[fN];refine⟨d6,?_⟩;rw[eg (o:=0) (s:=1) rfl];refine⟨⟨rfl,rfl,by simp[bZ]⟩,?_⟩;rw[eg (o:=1) (s:=1) rfl];refine⟨⟨rfl,rfl,by simp[bZ,ax]⟩,?_⟩;rw[eg (o:=2) (s:=1) rfl];refine⟨⟨rfl,rfl,by simp[bZ,ax]⟩,?_⟩;rw[gS];exact⟨rfl,h⟩
def Si(h:k (.vec 1 .full [.ms b1 0 n1 6 43])):bC K (ai (some (23,1)) (some [AV.af]) 1 false [(0,.ms b1 0 n1 6 43)]) k:=by
 rw[th];refine⟨d6,?_⟩;rw[pk (o:=0) (s:=1) rfl];refine⟨⟨rfl,rfl,by simp[bZ]⟩,?_⟩;rw[va];exact⟨rfl,h⟩
def Sj(h:k (.vec 2 .full [.ms b1 0 n1 6 43,.ms b2 0 n2 6 43])):bC K (ai (some (23,1)) (some [AV.af]) 2 false [(0,.ms b1 0 n1 6 43),(1,.ms b2 0 n2 6 43)]) k:=by
 rw[th];refine⟨d6,?_⟩;rw[pk (o:=0) (s:=1) rfl];refine⟨⟨rfl,rfl,by simp[bZ]⟩,?_⟩;rw[pk (o:=1) (s:=1) rfl];refine⟨⟨rfl,rfl,by simp[bZ,ax]⟩,?_⟩;rw[va];exact⟨rfl,h⟩
def aiE{b3 n3:Nat}(h:k (.vec 3 .full [.ms b1 0 n1 6 43,.ms b2 0 n2 6 43,.ms b3 0 n3 6 43])):bC K (ai (some (23,1)) (some [AV.af]) 3 false [(0,.ms b1 0 n1 6 43),(1,.ms b2 0 n2 6 43),(2,.ms b3 0 n3 6 43)]) k:=by
 rw[th];refine⟨d6,?_⟩;rw[pk (o:=0) (s:=1) rfl];refine⟨⟨rfl,rfl,by simp[bZ]⟩,?_⟩;rw[pk (o:=1) (s:=1) rfl];refine⟨⟨rfl,rfl,by simp[bZ,ax]⟩,?_⟩;rw[pk (o:=2) (s:=1) rfl];refine⟨⟨rfl,rfl,by simp[bZ,ax]⟩,?_⟩;rw[va];exact⟨rfl,h⟩
def xF{kind:Int}{text:aT}{n m at_ sz:Int}{kv:AV}{i0 c:Nat}{fl:List Nd}(kids:List (Nat×List Nd))(p6:(kids.map Prod.snd).flatten=fl)(hm:∀p∈kids,(p.1,bM p.2)∈nb)
 (sF:kids=[]/\kv=.af\/∃c,kv=.vec kids.length c (kids.map λp=>.ms p.1 0 p.2.length 6 43)) (gk:kids.length<=100) (S:S2 X r aj V bad i W nb U) (O:xI X r aj R V i0 c) (hW:bad=false->W=.ok (node kind text n m at_ fl) i)
 (hi:i0<=i) (hn:bad->fl.length+1<=8*(i-i0)+c) (hl:fl.length<=1000000) {Q:St->Prop} (hQ:∀aa,dt U aa->Q aa):ag K 60 [.agg [co kind,.str text,bv n,bv m,bv at_,bv sz],kv] U (bD (λv U=>Q U/\aq R v U) (aD R)):=by
 subst p6;refine Lc kids hm sF S hl gk λb aa S e=>⟨hQ aa e,?_⟩;exact wv (S.re hW) O d8 hi hn
def pt{kind:Int}{text:aT}{n m at_ sz:Int}{kv:AV}{i0 c:Nat}{fl:List Nd}(kids:List (Nat×List Nd))(p6:(kids.map Prod.snd).flatten=fl)(hm:∀p∈kids,(p.1,bM p.2)∈nb)
 (sF:kids=[]/\kv=.af\/∃c,kv=.vec kids.length c (kids.map λp=>.ms p.1 0 p.2.length 6 43)) (gk:kids.length<=100) (S:S2 X r aj V bad i W nb U) (O:xI X r aj R V i0 c) (hW:bad=false->W=.ok (node kind text n m at_ fl) i)
 (hi:i0<=i) (hn:bad->fl.length+1<=8*(i-i0)+c) (hl:fl.length<=1000000):ag K 60 [.agg [co kind,.str text,bv n,bv m,bv at_,bv sz],kv] U (bD (λv U=>aq R v U) (aD R)):=by
 subst p6;refine Lc kids hm sF S hl gk λb aa S e=>?_;exact wv (S.re hW) O d8 hi hn
end
section
variable {X:Rx}{i:Nat}
def S2.start{r:Nat}{U:St}{V W:PR (List Nd)}{bad:Bool}(hr:U.box r=some (rr X i bad))(hi:i<=X.L.length)(hs:Sp V bad i W):S2 X r U V bad i W [] U :=
 ⟨.mV hr (.refl _),hi,hs,⟨d8,d8⟩⟩
def abc{L:List Tk}{i:Nat}{w w':aT}(h:bP L i w)(h':bP L i w'):w=w':=by
 unfold bP at h h';split at h
 . rename_i t ht;rw[ht]at h';simp at h h';rw[<-h.2,<-h'.2]
 . cases h
def P5{L:List Tk}{i:Nat}{w w':aT}(h:bP L i w)(n:w≠w'):bP L i w'=false:=by
 cases e:bP L i w' with
 | false=>rfl
 | true=>exact absurd (abc h e) n
def Ab(hi:i<=X.L.length):Cr X 119 [] i (jh X.L 0 i) 1:=by
 refine⟨λr U R bad V hr hs O=>?_,qT hi,λns j h=>vW h⟩;refine Wl ?_;dsimp only[Wj,ae,ak,ah,aC];have S:=S2.start hr hi hs;unfold jh at S;refine pQ S ?_;refine fM S (λhb hw aK S=>?_) λhf S=>?_
 . simp only[aL];refine jC [co 6,.str [],bv 1,bv 0,bv (cT X.L 0 i),bv 0] rfl ?_;exact pt [] rfl d8 (.inl ⟨rfl,rfl⟩) d8 S O (λ_=>rfl) d6 (λh=>by cases h) d8
 simp only[aG];refine fM S (λhb hw aK S=>?_) λmD S=>?_
 . simp only[aL];refine jC [co 6,.str [],bv 2,bv 0,bv (cT X.L 0 i),bv 0] rfl ?_;exact pt [] rfl d8 (.inl ⟨rfl,rfl⟩) d8 S O (λ_=>rfl) d6 (λh=>by cases h) d8
 simp only[aG]
 replace S:=S.re (W':=if bP X.L i lq=true then (js X.L (i+1)).bind λn j=>.ok (node 6 [] n 0 (cT X.L 0 i) []) j else (bR X.L kh i).bind λ_ j=>(js X.L j).bind λn j=>.ok (node 7 [] n 0 (cT X.L 0 i) []) j) (λ_=>by
  by_cases h1:bP X.L i lq
  . have h2:=P5 h1 (w':=kh) d7;simp[h1,h2,bR,PR.bind]
  . by_cases h2:bP X.L i kh
    . simp[h1,h2,bR,PR.bind]
    . simp[h1,h2,bR,PR.bind])
 refine fM S (λhb hw aK S=>?_) λmD S=>?_
 . simp only[aL];refine rq S λeL i' x aV eF S=>?_;refine jC [co 6,.str [],bv x,bv 0,bv (cT X.L 0 i),bv 0] rfl ?_;exact pt [] rfl d8 (.inl ⟨rfl,rfl⟩) d8 S O (λ_=>rfl) d6 (λh=>by simp) d8
 . simp only[aG];refine fA S λeL i' a aV eF _ S=>?_;refine rq S λeL i'' x aV akY S=>?_;refine jC [co 7,.str [],bv x,bv 0,bv (cT X.L 0 i),bv 0] rfl ?_;exact pt [] rfl d8 (.inl ⟨rfl,rfl⟩) d8 S O (λ_=>rfl) d6 (λh=>by simp) d8
def H5(hi:i<=X.L.length):Cr X 279 [] i (mY X.L 0 i) 1:=by
 refine⟨λr U R bad V hr hs O=>?_,xL hi,λns j h=>CO h⟩;refine ZH ?_;dsimp only[ZG,ae,ah,aC];have S:=S2.start hr hi hs;unfold mY at S;refine pQ S ?_;refine qv S λeL i' x aK eF S=>?_;refine jC [co 37,.str x,bv 0,bv 0,bv (cT X.L 0 i),bv 0] rfl ?_;exact pt [] rfl d8 (.inl ⟨rfl,rfl⟩) d8 S O (λ_=>rfl) d6 (λh=>by simp) d8
def F5{r:Nat}{aj U:St}{bad:Bool}{V:PR (List Nd)}{one:Nat->PR (List Nd)}{lV:FuncId}{c b1:Nat}{kK:List (Nat×List AV)}{R:bi}{K':AV->AV->am}{m:AV}
 (C:∀i,i<=X.L.length->Cr X lV [] i (one i) c) (hc:c<=8) {fu:Nat} {ns:List Nd} {i0:Nat} (sE:i0<=i) (G2:ns.length<=8*(i-i0)+c) (hf:bad=false->X.L.length-i<fu) {q:List Nd->Nat->PR (List Nd)}
 (S:S2 X r aj V bad i ((mG X.L one fu ns i).bind q) ((b1,bM ns)::kK) U)
 (h:∀eL j acc b aa,i<=j->acc.length<=8*(j-i0)+c->S2 X r aj V eL j (q acc j) ((b,bM acc)::kK) aa->K' (.box r 0) m (.ms b 0 acc.length 6 43) aa) :
 nh 3 [.box r 0,m,.ms b1 0 ns.length 6 43] U λlp v0 v3 v4 U =>
  ag K 114 [v0,(AV.str ep)] U (bD (λnT U =>
  cX nT (
   ag K lV [v0] U (bD (λzo U =>
   (dH (some (43,6)) false v4 zo U).wp K U (λrB U =>
   lp v0 v3 rB U) (aD R)) (aD R))) (
   K' v0 v3 v4 U)) (aD R)):=by
 refine⟨λmm v0 v3 v4 aa=>∃eL j acc b f',mm=X.L.length-j/\v0=.box r 0/\v3=m/\v4=.ms b 0 acc.length 6 43/\i<=j/\acc.length<=8*(j-i0)+c/\(eL=false->X.L.length-j<f')/\S2 X r aj V eL j ((mG X.L one f' acc j).bind q) ((b,bM acc)::kK) aa,
  ⟨_,bad,i,ns,b1,fu,rfl,rfl,rfl,rfl,da _,G2,hf,S⟩,?_⟩
 rintro mm v0 v3 v4 aV ⟨eL,j,acc,b,f',rfl,rfl,rfl,rfl,eF,uX,mD,S⟩;have hs:=X.small;have hj:=S.hi
 replace S:=S.re (W':=if bP X.L j ep=true then (one (j+1)).bind λb j=>(mG X.L one (f'-1) (acc++b) j).bind q else q acc j) (λhb=>by
  have:=mD hb;cases f' with
  | zero=>omega
  | succ f' =>
    rw[mG];split
    . cases one (j+1)<;>rfl
    . rfl)
 refine fM S (λhb hw bG S=>?_) λPE S=>?_
 . simp only[aL];have aA:=de hw;have PE:=mD hb;refine fy (C _ aA) S λjP j2 uh b2 cI p7 wR hg S e=>?_;have ajI:=S.hi;refine Nu (nb1:=[(b2,bM uh)]) S (.inl d8) d6 λb3 dc S=>?_;refine⟨X.L.length-j2,d6,jP,j2,acc++uh,b3,f'-1,rfl,rfl,rfl,rfl,d6,by rw[dx];omega,λhb=>?_,?_⟩
   . have:=hg hb;omega
   . have o:=S.own;exact⟨S.A,S.hi,S.sp,⟨λp hp=>o.own p (by simp at hp ⊢;rcases hp with h|h;exact .inl h;exact .inr (.inr h)),by have:=o.J2;simp at this ⊢;exact⟨this.1.2,this.2.2⟩⟩⟩
 . simp only[aG];exact h eL j acc b aV eF uX S
def PR.Pk(p:PR α):p.bind (λa j=>.ok a j)=p:=by cases p<;>rfl
def IL{r:Nat}{aj U:St}{bad:Bool}{V p:PR (List Nd)}{nb:List (Nat×List AV)}{R:bi}{f:FuncId}{c:Nat}(C:Cr X f args i p c)(S:S2 X r aj V bad i p nb U)(O:xI X r aj R V i0 c)(hi:i0<=i):ag K f (.box r 0::args) U (bD (λv U=>aq R v U) (aD R)):=by
 replace S:=S.re (W':=p.bind λa j=>.ok a j) (λ_=>(PR.Pk p).symm)
 refine fy C S λeL j ns b aa eF hn _ S e=>?_;exact wv S O d8 d6 (λ_=>by omega)
def Qc{f:Nat}(hi:i<=X.L.length)(hf:X.L.length<f):Cr X 117 [] i (oX X.L 0 f i) 1:=by
 refine⟨λr U R bad V hr hs O=>?_,yg hi hf,λns j h=>Dm h⟩;refine Wg ?_;dsimp only[Wf,ae,ak,fU,aQ,ah,ej,fW,aC];have S:=S2.start hr hi hs;have lg:=X.small;unfold oX at S;refine pQ S ?_;refine fM S (λhb hw aK S=>?_) λhf S=>?_
 . simp only[db,ad,cL,aG];have aA:=de hw;unfold mF at S
   replace S:=S.re (W':=(jh X.L 0 (i+1)).bind λa j=>(mG X.L (jh X.L 0) f a j).bind λa j=>(bR X.L dE j).bind λ_ j=>(bR X.L gn j).bind λ_ j=>(jh X.L 0 j).bind λb j=>.ok (node 8 [] 0 0 (cT X.L 0 i) (a++b)) j) (λ_=>by
    cases jh X.L 0 (i+1)<;>rfl)
   refine fy (Ab aA) S λog j1 AN b1 aV h1 Az xW S e1=>?_;refine F5 (c:=1) (i0:=i+1) (λi hi=>Ab hi) d6 h1 Az (λhb=>by omega) S λjP j2 acc b2 bG h2 wR S=>?_;refine fA S λuN j3 a3 cI h3 _ S=>?_;refine fA S λCM j4 a4 dc h4 _ S=>?_;refine jC [co 8,.str [],bv 0,bv 0,bv (cT X.L 0 i),bv 0] rfl ?_;refine fy (Ab S.hi) S λxK j5 uj b5 jg h5 Mn Md S e5=>?_;have:=S.hi;refine aiX ?_;exact pt [(b2,acc),(b5,uj)] (fl:=acc++uj) d8 d8 (.inr ⟨.full,rfl⟩) d8 S O (λ_=>rfl) d6 (λh=>by simp;omega) (by simp;omega)
 . simp only[db,ad,dS,aL];exact IL (Ab hi) S O (da _)
def Ng{f:Nat}(hi:i<=X.L.length)(hf:X.L.length<f):Cr X 118 [] i (jM X.L 0 f i) 2:=by
 refine⟨λr U R bad V hr hs O=>?_,DE hi hf,λns j h=>Ho h⟩;refine Wi ?_;dsimp only[Wh,ae,ah,aC];have S:=S2.start hr hi hs;have lg:=X.small;unfold jM at S;refine pQ S ?_;refine qv S λog j1 x aK h1 S=>?_;refine fA S λjP j2 a2 aV h2 _ S=>?_;refine jC [co 5,.str x,bv 0,bv 0,bv (cT X.L 0 i),bv 0] rfl ?_;refine fy (Qc S.hi hf) S λuN j3 ui b3 bG h3 Jz xX S e3=>?_;have:=S.hi;refine EH ?_;exact pt [(b3,ui)] (fl:=ui) d8 d8 (.inr ⟨.full,rfl⟩) d8 S O (λ_=>rfl) d6 (λh=>by omega) d6
end
def bx(kind:Int)(text:aT)(n m at_:Int):List AV:=[co kind,.str text,bv n,bv m,bv at_,bv 0]
section
variable {X:Rx}{r i:Nat}{bad:Bool}{aj U:St}{V W W':PR (List Nd)}{nb nb1 kK:List (Nat×List AV)}{R:bi}{K':am}{Q:St->Prop}{Kp:am}{k:AV->Prop}{w:aT}{kind n m at_:Int}{text:aT}{bk:Nat}
def xI.tail{c:Nat}(O:xI X r aj R V i0 c):xI X r aj (bD (λv U=>aq R v U) (aD R)) V i0 c :=
 ⟨λns j h hj b aa h1 h2 A=>aq.mk (O.ok ns j h hj b aa h1 h2 A),λns j h h0 hj hn b aa h1 h2 A=>aq.mk (O.bad ns j h h0 hj hn b aa h1 h2 A)⟩
def S2.new{b:Nat}{l:List AV}(S:S2 X r aj V bad i W nb U)(hf:U.eO b):S2 X r aj V bad i W ((b,l)::nb) (U.new b (.box l)):=by
 have cD:b≠r:=λe=>cN S.A.box (e▸hf.1);exact⟨S.A.trans (.mV S.A.box (bK hf)),S.hi,S.sp,S.own.cons (bK hf).vZ cD (S.A.ex.fresh cD hf.1) hf.1 aH⟩
def Nv{a:Int}(S:S2 X r aj V bad i W nb U)(h:∀k aa,S2 X r aj V bad i W ((k,bx 0 [] 0 0 a)::nb) aa->K' (.box k 0) aa) :
 (aW.mU [co 0,AV.str [],bv 0,bv 0,bv 0,bv 0]).wp K U (λv3 U=>(dD (some (true,6)) v3 (.agg [co 0,.str [],bv 0,bv 0,bv a,bv 0]) U).wp K U (λ_ U=>K' v3 U) Kp) Kp :=
 VC S λb S=>AW (nb1:=[]) S rfl ⟨rfl,rfl,d8⟩ λaa S=>h b aa S
def iB{x:Int}(nb1:List (Nat×List AV))(S:S2 X r aj V bad i W (nb1++(bk,bx kind text n m at_)::kK) U)(h:∀aa,S2 X r aj V bad i W (nb1++(bk,bx x text n m at_)::kK) aa->Q aa) :
 (bu (some 0) (.box bk 0)).wp K U (λv U=>(dD (some (false,1)) v (co x) U).wp K U (λ_ U=>Q U) Kp) Kp :=
 AW (o:=0+0) (nb1:=nb1) S rfl ⟨rfl,rfl,by simp[bx]⟩ λaa S=>h aa S
def pP{x:aT}(nb1:List (Nat×List AV))(S:S2 X r aj V bad i W (nb1++(bk,bx kind text n m at_)::kK) U)(h:∀aa,S2 X r aj V bad i W (nb1++(bk,bx kind x n m at_)::kK) aa->Q aa) :
 (bu (some 1) (.box bk 0)).wp K U (λv U=>(dD (some (false,1)) v (.str x) U).wp K U (λ_ U=>Q U) Kp) Kp :=
 AW (o:=0+1) (nb1:=nb1) S rfl ⟨rfl,rfl,by simp[bx]⟩ λaa S=>h aa S
def SC{x:Int}(nb1:List (Nat×List AV))(S:S2 X r aj V bad i W (nb1++(bk,bx kind text n m at_)::kK) U)(h:∀aa,S2 X r aj V bad i W (nb1++(bk,bx kind text x m at_)::kK) aa->Q aa) :
 (bu (some 2) (.box bk 0)).wp K U (λv U=>(dD (some (false,1)) v (bv x) U).wp K U (λ_ U=>Q U) Kp) Kp :=
 AW (o:=0+2) (nb1:=nb1) S rfl ⟨rfl,rfl,by simp[bx]⟩ λaa S=>h aa S
def aiQ{x:Int}(nb1:List (Nat×List AV))(S:S2 X r aj V bad i W (nb1++(bk,bx kind text n m at_)::kK) U)(h:∀aa,S2 X r aj V bad i W (nb1++(bk,bx kind text n x at_)::kK) aa->Q aa) :
 (bu (some 3) (.box bk 0)).wp K U (λv U=>(dD (some (false,1)) v (bv x) U).wp K U (λ_ U=>Q U) Kp) Kp :=
 AW (o:=0+3) (nb1:=nb1) S rfl ⟨rfl,rfl,by simp[bx]⟩ λaa S=>h aa S
def AU(S:S2 X r aj V bad i W nb U)(h:(bk,bx kind text n m at_)∈nb)(hk:k (.agg (bx kind text n m at_))):bC K (bj (some (true,6)) (.box bk 0) U) k:=by
 rw[B0 (S.own.own _ h).2.1];exact⟨by simp[bx],hk⟩
def wu(S:S2 X r aj V bad i W nb U)(h:(bk,bx kind text n m at_)∈nb)(hk:K' (.agg (bx kind text n m at_)) U):(bj (some (true,6)) (.box bk 0) U).wp K U K' Kp:=by
 rw[mK (S.own.own _ h).2.1];exact⟨by simp[bx],hk⟩
def IA{f:Nat}(hF:∀j,j<=X.L.length->i<=j->Cr X 176 [] j (cM X.L 0 f j) 1)(sE:i0+1<=i)
 (S:S2 X r aj V bad i ((cM X.L 0 f i).bind λa j=>(bR X.L w j).bind λ_ j=>(cM X.L 0 f j).bind λb j=>.ok (node kind text n m at_ (a++b)) j) nb U) (O:xI X r aj R V i0 1) :
 ag K 228 [.box r 0,.agg (bx kind text n m at_),.str w] U (bD (λv U=>aq R v U) (aD R)):=by
 replace O:=O.tail
 generalize bD (λv U=>aq R v U) (aD R)=R at O ⊢;refine YZ ?_;dsimp only[YY,jN,ae,lD,ah,dI,kN];have lg:=X.small;rw[fg rfl];intro bk hf
 replace S:=S.new (l:=bx kind text n m at_) hf
 show ag K 176 _ (U.new bk (.box (bx kind text n m at_))) _;generalize U.new bk (.box (bx kind text n m at_))=U at S ⊢;refine fy (hF _ S.hi (da _)) S λog j1 AN b1 aK h1 Az xW S e1=>?_;refine fA S λjP j2 a2 aV h2 _ S=>?_;refine AU S (.tail _ (.head _)) ?_;have S0:=S;refine fy (hF _ S.hi d6) S λuN j3 ui b3 bG h3 Jz xX S e3=>?_;have:=S.hi;refine⟨S0.same (b:=bk) (.tail _ (.head _)) e3,Sj ?_⟩;exact xF (Q:=λU=>dR _ aV U) [(b1,AN),(b3,ui)] (fl:=AN++ui) d8 d8 (.inr ⟨.full,rfl⟩) d8 S O (λ_=>rfl) d6 (λh=>by simp;omega) (by simp;omega) λaa e=>S0.same (b:=bk) (.tail _ (.head _)) (e3.trans e.vZ)
end
section
variable {X:Rx}{i:Nat}
def aei(h:o4 t)(e:t.s=bY):t.k=4:=by
 rcases rz h.2 with ⟨_,_,_,⟨c,r,h1,h2⟩,_⟩|⟨_,c,r,h1,h2⟩|⟨_,h1⟩|⟨h1,_⟩
 . rw[e]at h1;cases h1;exact absurd h2 d7
 . rw[e]at h1;cases h1;exact absurd h2 d7
 . rw[e]at h1;exact absurd h1 d7
 . exact h1
def Sn{k:AV->Prop}{gv:AV}{bt:BT}{l:Bool}{x y:Int}(hg:gv=.bool true)(h:xG (x+y)/\k (bv (x+y))):aI K gv (bU .add bt l (bv x) (bv y)) k:=by
 rw[hg,aw,bO,BZ];exact h
def abS{r:Nat}{aj U:St}{V:PR (List Nd)}{nb:List (Nat×List AV)}{K':am}{Kp:am}{q:aT->Nat->PR (List Nd)}{i:Nat}(hk:ij X.L i 1)(S:S2 X r aj V false i ((fO X.L i).bind q) nb U)
 (h:∀x aa,S2 X r aj V false (i+1) (q x (i+1)) nb aa->K' (.str x) aa):ag K 115 [.box r 0] U (bD K' Kp):=by
 refine Ns S.A.box (λt hb ht hk aa A=>?_) λhb aa A=>?_
 . have aA:=(dw.1 ht).1;exact h _ aa (S.step A aA (by rw[S.gd];simp[Sp,fO,ht,hk,PR.bind]))
 . rcases hb with hb|hb
   . cases hb
   . rw[hk]at hb;cases hb
def aiH{e:Nat}{k:AV->Prop}{gv:AV}{i:Nat}{j:Int}(hj:j=(i:Nat))(hg:gv=.bool true)(ht:X.L[i]?=some t)(h:∀rest,k (.dJ (jD t++rest))):aI K gv (bJ (some (e,3)) none X.tv (bv j)) k:=by
 subst hj;exact So hg ht h
def aaI{f:Nat}(hi:i<=X.L.length)(he:40*(X.L.length-i)+10<=f+1)(hF:∀j,j<=X.L.length->i+1<=j->Cr X 176 [] j (cM X.L 0 f j) 1)(hO:Cr X 229 [bv 0] i (fZ X.L 0 f 2 i) 1):Cr X 176 [] i (cM X.L 0 (f+1) i) 1:=by
 refine⟨λr U R bad V hr hs O=>?_,(uV (f+1)).2.2.1 i hi he,λns j h=>(uW (f+1)).2.2.1 h⟩;refine XZ ?_;dsimp only[XY,eh,qk,yG,se,zu,tQ,Be,cU,jN,KG,ae,lD,yH,ak,ah,dj,cw,cn,aC,dr,dA,qm,kN];have S:=S2.start hr hi hs;have lg:=X.small;rw[cM]at S;refine pQ S ?_;refine jC [co 0,.str [],bv 0,bv 0,bv (cT X.L 0 i),bv 0] rfl ?_;refine Nv S λbk aK S=>?_;refine fM S (λhb hw aV S=>?_) λGU S=>?_
 . simp only[aL];refine fy (hF _ S.hi (da _)) S λog j1 AN b1 bG h1 Az xW S e1=>?_;refine fA S λjP j2 a2 cI h2 _ S=>?_;refine fy (hF _ S.hi d6) S λuN j3 ui b3 dc h3 Jz xX S e3=>?_;refine fA S λCM j4 a4 jg h4 _ S=>?_;refine iB [_,_] S λgZ S=>?_;refine⟨[bk],by simp[cB],?_⟩;refine AU S (.tail _ (.tail _ (.head _))) ?_;have S0:=S;refine fy (hF _ S.hi d6) S λxK j5 uj b5 pE h5 Mn Md S e5=>?_;have:=S.hi;refine⟨S0.same (.tail _ (.tail _ (.head _))) e5,aiE ?_⟩;exact xF (Q:=λU=>dR _ gZ U) [(b1,AN),(b3,ui),(b5,uj)] (fl:=AN++ui++uj) d8 d8 (.inr ⟨.full,rfl⟩) d8 S O (λ_=>rfl) d6 (λh=>by simp;omega) (by simp;omega) λaa e=>S0.same (.tail _ (.tail _ (.head _))) (e5.trans e.vZ)
 simp only[aG];refine fM S (λhb hw aV S=>?_) λmD S=>?_
 . simp only[aL];refine iB [] S λbG S=>?_;refine wu S (.head _) ?_;exact IA (i0:=i) (λj hj eF=>hF j hj eF) (da _) S O
 simp only[aG];refine fM S (λhb hw aV S=>?_) λPE S=>?_
 . simp only[aL];refine qv S λog j1 x bG h1 S=>?_;refine iB [] S λcI S=>?_;refine pP [] S λdc S=>?_;refine fA S λjP j2 a2 jg h2 _ S=>?_;refine rq S λuN j3 n3 gZ h3 S=>?_;refine SC [] S λpE S=>?_;refine fA S λCM j4 a4 rF h4 _ S=>?_;refine rq S λxK j5 n5 sw h5 S=>?_;refine aiQ [] S λac0 S=>?_;refine fA S λQZ j6 a6 vy h6 _ S=>?_;refine⟨[bk],by simp[cB],?_⟩;refine AU S (.head _) ?_;have S0:=S;refine fy (hF _ S.hi d6) S λQ0 j7 Dy b7 ac1 h7 hn7 PG S e7=>?_;have:=S.hi;refine⟨S0.same (.head _) e7,Si ?_⟩;exact xF (Q:=λU=>dR _ vy U) [(b7,Dy)] (fl:=Dy) d8 d8 (.inr ⟨.full,rfl⟩) d8 S O (λ_=>rfl) d6 (λh=>by omega) d6 λaa e=>S0.same (.head _) (e7.trans e.vZ)
 simp only[aG];refine fM S (λhb hw aV S=>?_) λhf4 S=>?_
 . simp only[aL];refine qv S λog j1 x bG h1 S=>?_;refine iB [] S λcI S=>?_;refine pP [] S λdc S=>?_;refine fA S λjP j2 a2 jg h2 _ S=>?_;refine wu S (.head _) ?_;exact IA (i0:=i) (λj hj eF=>hF j hj d6) d6 S O
 simp only[aG]
 replace S:=S.re (W':=if bP X.L i jR=true then (fO X.L (i+1)).bind λx j=>(bR X.L bY j).bind λ_ j=>(js X.L j).bind λn j=>(bR X.L jQ j).bind λ_ j=>(cM X.L 0 f j).bind λa j=>.ok (node 14 x n 0 (cT X.L 0 i) a) j
  else if bP X.L i jz=true then (cM X.L 0 f (i+1)).bind λa j=>(bR X.L gh j).bind λ_ j=>(cM X.L 0 f j).bind λb j=>.ok (node 15 [] 0 0 (cT X.L 0 i) (a++b)) j
  else if ij X.L i 1=true/\bP X.L (i+1) bY=true then (fO X.L i).bind λx j=>(bR X.L bY j).bind λ_ j=>(cM X.L 0 f j).bind λa j=>.ok (node 16 x 0 0 (cT X.L 0 i) a) j
  else fZ X.L 0 f 2 i) (λ_=>by
  by_cases h1:bP X.L i jR
  . have h2:=P5 h1 (w':=jz) d7;rw[if_neg (by rw[h2];simp),if_pos h1,if_pos h1]
  . by_cases h2:bP X.L i jz
    . rw[if_pos h2,if_neg h1,if_pos h2]
    . rw[if_neg h2,if_neg h1,if_neg h1,if_neg h2])
 refine fM S (λhb hw aV S=>?_) λhf5 S=>?_
 . simp only[aL];refine qv S λog j1 x bG h1 S=>?_;refine iB [] S λcI S=>?_;refine pP [] S λdc S=>?_;refine fA S λjP j2 a2 jg h2 _ S=>?_;refine rq S λuN j3 n3 gZ h3 S=>?_;refine SC [] S λpE S=>?_;refine fA S λQZ j6 a6 vy h6 _ S=>?_;refine⟨[bk],by simp[cB],?_⟩;refine AU S (.head _) ?_;have S0:=S;refine fy (hF _ S.hi d6) S λQ0 j7 Dy b7 ac1 h7 hn7 PG S e7=>?_;have:=S.hi;refine⟨S0.same (.head _) e7,Si ?_⟩;exact xF (Q:=λU=>dR _ vy U) [(b7,Dy)] (fl:=Dy) d8 d8 (.inr ⟨.full,rfl⟩) d8 S O (λ_=>rfl) d6 (λh=>by omega) d6 λaa e=>S0.same (.head _) (e7.trans e.vZ)
 simp only[aG];refine fM S (λhb hw aV S=>?_) λhf6 S=>?_
 . simp only[aL];refine iB [] S λbG S=>?_;refine wu S (.head _) ?_;exact IA (i0:=i) (λj hj eF=>hF j hj eF) (da _) S O
 simp only[aG];have uI:=S.A.box;have stop:(bad=false->¬ (ij X.L i 1/\bP X.L (i+1) bY))->ag K 229 [.box r 0,bv 0] aK (bD (λakE U=>aq R akE U) (aD R)):=λhn =>
  IL hO (S.re λhb=>if_neg (hn hb)) O (da _)
 refine⟨[r],?_⟩;refine RP uI 1 (λt hb ht hk=>?_) (λhb=>?_)
 . subst hb;have aA:=(dw.1 ht).1;refine⟨λ_ _=>rfl,?_⟩;refine eZ rfl rfl ?_;refine eZ rfl rfl ?_;refine eZ rfl rfl ?_;refine⟨by simp[cB],?_⟩;refine uo (o:=1) rfl uI rfl rfl ?_;refine Sn rfl ⟨aX d6 d6,?_⟩;refine eZ rfl rfl ?_;refine eZ rfl rfl ?_;refine eZ rfl rfl ?_;refine⟨by simp[cB],?_⟩;refine uo (o:=0) rfl uI rfl rfl ?_;refine Sq rfl X.tr ?_
   by_cases nH:i+1<X.L.length
   . obtain⟨t2,PT⟩:∃t,X.L[i+1]?=some t:=⟨X.L[i+1],by simp[nH]⟩;refine eZ (v:=.bool true) rfl (by rw[aY];simp;omega) ?_;refine wG ?_;refine eZ rfl rfl ?_;refine eZ rfl rfl ?_;refine eZ rfl rfl ?_;refine⟨by simp[cB],?_⟩;refine uo (o:=0) rfl uI rfl rfl ?_;refine eZ rfl rfl ?_;refine eZ rfl rfl ?_;refine eZ rfl rfl ?_;refine⟨by simp[cB],?_⟩;refine uo (o:=1) rfl uI rfl rfl ?_;refine Sn rfl ⟨aX d6 d6,?_⟩;refine aiH (i:=i+1) d8 rfl PT λr1=>?_;refine eZ rfl rfl ?_;refine⟨by simp[cB],?_⟩;refine eZ (v:=.str t2.s) rfl rfl ?_;refine eZ (v:=.bool (decide (t2.s=bY))) rfl (by rw[hU]) ?_;refine wG ?_
     by_cases hs:t2.s=bY
     . rw[show (AV.bool (decide (t2.s=bY)))=.bool true by simp[hs]];simp only[aL];have qY:=aei (X.ok t2 (fT PT)) hs;have hw:bP X.L (i+1) bY:=P6 PT (.inr qY) hs;have E8:ij X.L i 1:=by unfold ij;rw[ht];simp[hk]
       replace S:=S.re λ_=>if_pos ⟨E8,hw⟩
       refine abS E8 S λx bG S=>?_;refine iB [] S λcI S=>?_;refine pP [] S λdc S=>?_;refine fA S λjP j2 a2 jg h2 Jt S=>?_;refine⟨[bk],by simp[cB],?_⟩;refine AU S (.head _) ?_;have S0:=S;refine fy (hF _ S.hi d6) S λQ0 j7 Dy b7 ac1 h7 hn7 PG S e7=>?_;have:=S.hi;refine⟨S0.same (.head _) e7,Si ?_⟩;exact xF (Q:=λU=>dR _ jg U) [(b7,Dy)] (fl:=Dy) d8 d8 (.inr ⟨.full,rfl⟩) d8 S O (λ_=>rfl) d6 (λh=>by omega) d6 λaa e=>S0.same (.head _) (e7.trans e.vZ)
     . rw[show (AV.bool (decide (t2.s=bY)))=.bool false by simp[hs]];simp only[aG];refine stop λ_ h=>hs ?_;obtain⟨t3,h3,_,h4⟩:=yW h.2;rw[PT]at h3;cases h3;exact h4
   . refine eZ (v:=.bool false) rfl (by rw[aY];simp;omega) ?_;refine wG ?_
     iterate 3 refine gM rfl ?_
     refine⟨by simp[cB],?_⟩
     iterate 4 refine gM rfl ?_
     refine⟨by simp[cB],?_⟩
     iterate 4 refine gM rfl ?_
     refine⟨by simp[cB],?_⟩
     iterate 2 refine gM rfl ?_
     refine wF ?_;simp only[aG];exact stop λ_ h=>nH (de h.2)
 . refine⟨λ_ _=>rfl,?_⟩
   iterate 3 refine gM rfl ?_
   refine⟨by simp[cB],?_⟩
   iterate 5 refine gM rfl ?_
   refine⟨by simp[cB],?_⟩
   iterate 3 refine gM rfl ?_
   refine wF ?_
   iterate 3 refine gM rfl ?_
   refine⟨by simp[cB],?_⟩
   iterate 4 refine gM rfl ?_
   refine⟨by simp[cB],?_⟩
   iterate 4 refine gM rfl ?_
   refine⟨by simp[cB],?_⟩
   iterate 2 refine gM rfl ?_
   refine wF ?_;simp only[aG];refine stop λe h=>?_;rcases hb with hb|hb
   . rw[hb]at e;cases e
   . rw[hb]at h;cases h.1
end
def jb:Nat->List (aT×Int)
 | 2=>[(wL,17)]
 | 3=>[(sY,18)]
 | 5=>[(gH,20),(pX,21)]
 | 6=>[(pW,22),(oY,23)]
 | 7=>[(qO,24)]
 | _=>[]
def Ob(lev:Nat):AV:=match jb lev with
 | []=>.af
 | l=>.vec l.length .full (l.map λp=>.str p.1)
def UG(lev:Nat):AV:=match jb lev with
 | []=>.af
 | l=>.vec l.length .full (l.map λp=>co p.2)
def J8(L:List Tk)(i lev:Nat)(h:2<=lev)(h7:lev<=7):mi L lev i=((jb lev).find? λp=>bP L i p.1).map λp=>p.2:=by
 have:lev=2\/lev=3\/lev=4\/lev=5\/lev=6\/lev=7:=by omega
 rcases this with rfl|rfl|rfl|rfl|rfl|rfl
 . cases h1:bP L i wL<;>simp[mi,jb,h1]
 . cases h1:bP L i sY<;>simp[mi,jb,h1]
 . simp[mi,jb]
 . cases h1:bP L i gH<;>cases h2:bP L i pX<;>simp[mi,jb,h1,h2]
 . cases h1:bP L i pW<;>cases h2:bP L i oY<;>simp[mi,jb,h1,h2]
 . cases h1:bP L i qO<;>simp[mi,jb,h1]
def yD{e:Nat}{x:AV}{U:St}{K':am}{Kp:am}(hz:al z=[z])(hx:x.dC)(hc:al x=[x])(h:K' (.vec 1 .full [x]) U):(ai (some (e,1)) (some [z]) 1 false [(0,x)]).wp K U K' Kp:=by
 rw[fN];refine⟨d6,?_⟩;rw[eg (o:=0) (s:=1) rfl];refine⟨⟨hx,by rw[hc];rfl,by simp[bZ]⟩,?_⟩;rw[gS,hc];exact⟨rfl,h⟩
def D6{e:Nat}{x y:AV}{U:St}{K':am}{Kp:am}(hx:x.dC)(hc:al x=[x])(hy:y.dC)(hd:al y=[y])(h:K' (.vec 2 .full [x,y]) U):(ai (some (e,1)) (some [z]) 2 false [(0,x),(1,y)]).wp K U K' Kp:=by
 rw[fN];refine⟨d6,?_⟩;rw[eg (o:=0) (s:=1) rfl];refine⟨⟨hx,by rw[hc];rfl,by simp[bZ]⟩,?_⟩;rw[eg (o:=1) (s:=1) rfl];refine⟨⟨hy,by rw[hd];rfl,by rw[hc];simp[bZ,ax]⟩,?_⟩;rw[gS,hc,hd];exact⟨rfl,h⟩
variable {lev:Nat}
def Nf{U:St}{R:bi}(h:2<=lev)(h7:lev<=7)(hR:R (.ret (.az [Ob lev,UG lev])) U):ag K 256 [bv ((lev:Int)-2)] U R:=by
 refine Zz ?_;dsimp only[Zy,ak,ah,ar,aC];have:lev=2\/lev=3\/lev=4\/lev=5\/lev=6\/lev=7:=by omega
 rcases this with rfl|rfl|rfl|rfl|rfl|rfl
 . simp only[aN,ad,show ((2:Nat):Int)-2=0 from rfl,cC,aL];exact yD rfl rfl rfl (yD rfl rfl rfl (aq.mk hR))
 . simp only[aN,ad,show ((3:Nat):Int)-2=1 from rfl,show decide ((1:Int)=0)=false from rfl,cC,aL,aG];exact yD rfl rfl rfl (yD rfl rfl rfl (aq.mk hR))
 . simp only[aN,ad,show ((4:Nat):Int)-2=2 from rfl,show decide ((2:Int)=0)=false from rfl,show decide ((2:Int)=1)=false from rfl,show decide ((2:Int)=3)=false from rfl,show decide ((2:Int)=4)=false from rfl,show decide ((2:Int)=5)=false from rfl,aG];exact aq.mk hR
 . simp only[aN,ad,show ((5:Nat):Int)-2=3 from rfl,show decide ((3:Int)=0)=false from rfl,show decide ((3:Int)=1)=false from rfl,cC,aL,aG];exact D6 rfl rfl rfl rfl (D6 rfl rfl rfl rfl (aq.mk hR))
 . simp only[aN,ad,show ((6:Nat):Int)-2=4 from rfl,show decide ((4:Int)=0)=false from rfl,show decide ((4:Int)=1)=false from rfl,show decide ((4:Int)=3)=false from rfl,cC,aL,aG];exact D6 rfl rfl rfl rfl (D6 rfl rfl rfl rfl (aq.mk hR))
 . simp only[aN,ad,show ((7:Nat):Int)-2=5 from rfl,show decide ((5:Int)=0)=false from rfl,show decide ((5:Int)=1)=false from rfl,show decide ((5:Int)=3)=false from rfl,show decide ((5:Int)=4)=false from rfl,cC,aL,aG];exact yD rfl rfl rfl (yD rfl rfl rfl (aq.mk hR))
section
variable {X:Rx}{r i:Nat}{bad:Bool}{aj U:St}{V W W':PR (List Nd)}{nb nb':List (Nat×List AV)}{R:bi}{K':am}{Kp:am}{w:aT}
def S2.sub(S:S2 X r aj V bad i W nb U)(h:nb'.Sublist nb):S2 X r aj V bad i W nb' U :=
 ⟨S.A,S.hi,S.sp,⟨λp hp=>S.own.own p (h.subset hp),S.own.J2.sublist (h.map _)⟩⟩
def F8(hw:bP X.L i w)(S:S2 X r aj V false i W nb U)
 (h:∀aa,S2 X r aj V false (i+1) W nb aa->K' (bv (cT X.L 0 i)) aa):ag K 116 [.box r 0,.str w] U (bD K' Kp):=by
 refine QE S.A.box w (λhb hw aa A=>?_) λhb aa A=>?_
 . exact h aa (S.step A (de hw) (by rw[S.gd];simp[Sp]))
 . rcases hb with hb|hb
   . cases hb
   . rw[hw]at hb;cases hb
def abw(lev:Nat):(jb lev).length<=2:=by unfold jb;split<;>simp
def ahB{k:Nat}{p:aT×Int}(h:(jb lev)[k]?=some p):∃rest,Ob lev=.vec (jb lev).length .full ((jb lev).map λp=>.str p.1)/\((jb lev).map λp=>AV.str p.1).drop ((k:Int).toNat*1)=.str p.1::rest:=by
 have aA:=(dw.1 h).1;refine⟨((jb lev).map λp=>AV.str p.1).drop (k+1),?_,?_⟩
 . unfold Ob;split
   . rename_i e;rw[e]at aA;simp at aA
   . rfl
 . rw[ez,Nat.mul_one,gI (by simpa using aA)];have:=(dw.1 h).2;simp[this]
def agT{k:Nat}{p:aT×Int}(h:(jb lev)[k]?=some p):∃rest,UG lev=.vec (jb lev).length .full ((jb lev).map λp=>co p.2)/\((jb lev).map λp=>co p.2).drop ((k:Int).toNat*1)=co p.2::rest:=by
 have aA:=(dw.1 h).1;refine⟨((jb lev).map λp=>co p.2).drop (k+1),?_,?_⟩
 . unfold UG;split
   . rename_i e;rw[e]at aA;simp at aA
   . rfl
 . rw[ez,Nat.mul_one,gI (by simpa using aA)];have:=(dw.1 h).2;simp[this]
def afN(lev:Nat):dK (some false) (Ob lev)=.val (bv (jb lev).length):=by
 unfold Ob;split
 . rename_i e;rw[e];rfl
 . rfl
def Jj{l:List α}{P:α->Bool}{k:Nat}{x:α}(h:∀j,j<k->∀y,l[j]?=some y->P y=false)(hk:l[k]?=some x)(hx:P x):l.find? P=some x:=by
 induction l generalizing k with
 | nil=>simp at hk
 | cons a l ih =>
   cases k with
   | zero=>simp at hk;subst hk;simp[hx]
   | succ k =>
     have:=h 0 d6 a d8;rw[List.find?_cons,this];exact ih (k:=k) (λj hj y hy=>h (j+1) d6 y (by simpa using hy)) (by simpa using hk)
def LN{l:List α}{P:α->Bool}(h:∀j,j<l.length->∀y,l[j]?=some y->P y=false):l.find? P=none:=by
 rw[List.find?_eq_none];intro x hx;obtain⟨j,hj,rfl⟩:=List.mem_iff_getElem.1 hx;simp[h j hj l[j] (by simp[hj])]
end
section
variable {X:Rx}{i:Nat}
def Tm{f:Nat}{r:Nat}{aj U:St}{bad:Bool}{V:PR (List Nd)}{R:bi}(hi:i<=X.L.length)(h2:2<=lev)(h7:lev<=7)(he:40*(X.L.length-i)+(11-lev)<=f+1)
 (hC:∀f' j u3,f'<=f->j<=X.L.length->i<=j->2<=u3->u3<=8->40*(X.L.length-j)+(11-u3)<=f'->Cr X 229 [bv ((u3:Int)-2)] j (fZ X.L 0 f' u3 j) 1)
 (S:S2 X r aj V bad i ((fZ X.L 0 f (lev+1) i).bind λa j=>ky X.L 0 f lev a j) [] U) (O:xI X r aj R V i 1) :
 (bU .add (BT.mk false false false none false) true (bv ((lev:Int)-2)) (bv 1)).wp K U (λzq U =>
 ag K 229 [.box r 0,zq] U (bD (λZ1 U =>
 ag K 256 [bv ((lev:Int)-2)] U (bD (λKB U =>
 (jt KB 0).wp K U (λsM U =>
 (jt KB 1).wp K U (λv49 U =>
 nh 6 [.box r 0,bv ((lev:Int)-2),Z1,sM,v49,ce] U λlp akD akF v7 v8 v9 v10 U =>
  cX v10 (
   nh 7 [akD,akF,v7,v8,v9,ci,(bv 0)] U λake IV N4 acV Cd Gj ad7 v11 U =>
    (dK (some false) Cd).wp K U (λv53 U =>
    (bU .lss (BT.mk false false false none false) false v11 v53).wp K U (λzr U =>
    cX zr (
     (bJ (some (9,1)) none Cd v11).wp K U (λv60 U =>
     (bj (some (false,1)) v60 U).wp K U (λQJ U =>
     ag K 173 [IV,QJ] U (bD (λQK U =>
     cX QK (
      (bJ (some (9,1)) none Cd v11).wp K U (λv66 U =>
      (bj (some (false,1)) v66 U).wp K U (λZ3 U =>
      ag K 116 [IV,Z3] U (bD (λZ4 U =>
      (λaj:St =>
      bC K (bJ (some (5,1)) none Gj v11) (λN8 =>
      bC K (bj (some (false,1)) N8 aj) (λv72 =>
      bC K (cx (some [(0,1),(1,1),(2,1),(3,1),(4,1),(5,1)]) (some [co 0,AV.str [],bv 0,bv 0,bv 0,bv 0]) none [(0,v72),(4,Z4)]) (λN9 =>
      bC K (bU .add (BT.mk false false false none false) true N4 (bv 1)) (λv78 =>
      ag K 229 [IV,v78] U (bD (λv79 U=>dR ((cB N8++[])++[]) aj U /\
      bC K (ai (some (23,1)) (some [AV.af]) 2 false [(0,acV),(1,v79)]) (λv80 =>
      ag K 60 [N9,v80] U (bD (λv81 U=>dR ((cB N8++[])++[]) aj U /\
      (bU .neq (BT.mk false false false none false) true N4 (bv 3)).wp K U (λv83 U =>
      lp IV N4 v81 Cd Gj v83 U) (aD R)) (aD R)))) (aD R))))))) U) (aD R))) (aD R)) (aD R)) (
      (bU .add (BT.mk false false false none false) true v11 (bv 1)).wp K U (λHM U =>
      ake IV N4 acV Cd Gj ad7 HM U) (aD R))) (aD R))) (aD R)) (aD R)) (
     lp IV N4 acV Cd Gj ad7 U)) (aD R)) (aD R)) (
   aq R v7 U)) (aD R)) (aD R)) (aD R))) (aD R))) (aD R):=by
 have lg:=X.small;have JC:=abw lev;rw[cF];refine⟨aX d6 d6,?_⟩;rw[show ((lev:Int)-2+1)=((lev+1:Nat):Int)-2 by omega];refine fy (hC f i (lev+1) (da _) hi (da _) d6 d6 d6) S λog j1 AN b1 aK h1 Az xW S e1=>?_;refine Nf h2 h7 ?_;simp only[bh,bN,List.drop,bI];refine⟨λmm v0 v1 v7 v8 v9 v10 aa=>∃eL j left b f' again,mm=2*(X.L.length-j)+(if again=true then 1 else 0)/\v0=.box r 0/\v1=bv ((lev:Int)-2)/\v7=.ms b 0 left.length 6 43/\v8=Ob lev/\v9=UG lev/\v10=.bool again/\i<=j/\left.length<=8*(j-i)+1/\f'<=f/\(eL=false->again=true->40*(X.L.length-j)+1<=f')/\S2 X r aj V eL j (if again=true then ky X.L 0 f' lev left j else .ok left j) [(b,bM left)] aa,
  ⟨_,og,j1,AN,b1,f,true,rfl,rfl,rfl,rfl,rfl,rfl,rfl,h1,Az,da _,λhb _=>by have:=xW hb;have:=S.hi;omega,by simpa using S⟩,?_⟩
 clear S;rintro mm v0 v1 v7 v8 v9 v10 aV ⟨jP,j,left,b,f',again,rfl,rfl,rfl,rfl,rfl,rfl,rfl,eF,hl,nv,mD,S⟩;cases again with
 | false =>
   simp only[aG];exact wv (by simpa using S) O (.head _) eF (λ_=>hl)
 | true =>
   simp only[aL];simp only[if_true]at S;refine⟨λm2 v0 v1 v7 v8 v9 v10 v11 aa=>∃k:Nat,m2=(jb lev).length-k/\v0=.box r 0/\v1=bv ((lev:Int)-2)/\v7=.ms b 0 left.length 6 43/\v8=Ob lev/\v9=UG lev/\v10=.bool false/\v11=bv (k:Nat)/\k<=(jb lev).length/\(jP=false->∀q,q<k->∀y,(jb lev)[q]?=some y->bP X.L j y.1=false)/\aa=aV,
    ⟨_,0,rfl,rfl,rfl,rfl,rfl,rfl,rfl,rfl,Nat.zero_le _,λ_ q hq=>by omega,rfl⟩,?_⟩
   rintro m2 v0 v1 v7 v8 v9 v10 v11 bG ⟨k,rfl,rfl,rfl,rfl,rfl,rfl,rfl,rfl,hk,iV,rfl⟩;simp only[afN,ad,aY,bp];refine⟨λaA=>?_,λgL=>?_⟩
   . have aA:k<(jb lev).length:=by omega
     obtain⟨p,hp⟩:∃p,(jb lev)[k]?=some p:=⟨(jb lev)[k],by simp[aA]⟩;obtain⟨rest,hw,hd⟩:=ahB hp;rw[hw,sv];refine⟨d6,?_⟩;rw[hd,ln,bI];refine wq S.A.box p.1 ?_;simp only[bh];cases hb:(!jP&&bP X.L j p.1) with
     | false =>
       simp only[aG,cF];refine⟨aX d6 d6,(jb lev).length-(k+1),d6,k+1,rfl,rfl,rfl,rfl,rfl,rfl,rfl,rfl,aA,λqG q hq y hy=>?_,rfl⟩;rcases ik q k with h|h
       . exact iV qG q h y hy
       . have:q=k:=by omega
         subst this;rw[hp]at hy;cases hy;simpa [qG] using hb
     | true =>
       have qG:jP=false:=by cases jP<;>simp_all
       subst qG;have AB:bP X.L j p.1:=by simpa using hb
       have hjl:=de AB;simp only[aL];rw[sv];refine⟨d6,?_⟩;rw[hd,ln,bI];have TZ:=mD rfl rfl;have hop:mi X.L lev j=some p.2:=by
        rw[J8 X.L j lev h2 h7,Jj (iV rfl) hp AB];rfl
       cases f' with
       | zero=>omega
       | succ f' =>
         rw[ky,hop]at S;simp only[show ¬ lev=8 by omega,if_false]at S;refine F8 AB S λcI S=>?_;obtain⟨ado,PU,tF⟩:=agT hp;rw[PU,Nk];refine⟨d6,?_⟩;rw[tF,oA,gg];refine Q4 [co p.2,.str [],bv 0,bv 0,bv (cT X.L 0 j),bv 0] rfl ?_;rw[BZ];refine⟨aX d6 d6,?_⟩;rw[show ((lev:Int)-2+1)=((lev+1:Nat):Int)-2 by omega];refine fy (hC f' (j+1) (lev+1) d6 hjl d6 d6 d6 d6) S λxK j5 uj b5 dc h5 Mn Md S e5=>?_;have hj5:=S.hi;refine⟨λb hb=>by simp[cB]at hb,Sj ?_⟩;refine Lc [(b,left),(b5,uj)] d8 (.inr ⟨.full,rfl⟩) S (by simp;omega) d8 λb6 jg S e6=>?_;refine⟨λb hb=>by simp[cB]at hb,?_⟩;simp only[ck,ad];have p6:(([(b,left),(b5,uj)]:List (Nat×List Nd)).map Prod.snd).flatten=left++uj:=by simp
         rw[p6]at S ⊢;refine⟨2*(X.L.length-j5)+(if (!decide ((lev:Int)-2=3))=true then 1 else 0),by split<;>simp<;>omega,xK,j5,node p.2 [] 0 0 (cT X.L 0 j) (left++uj),b6,f',!decide ((lev:Int)-2=3),rfl,rfl,rfl,rfl,rfl,rfl,rfl,d6,?_,d6,λhb _=>?_,?_⟩
         . rw[cR,dx];omega
         . have:=Md hb;omega
         . refine (S.re λ_=>?_).sub (List.Sublist.cons_cons _ (List.nil_sublist _))
           by_cases h5:lev=5
           . subst h5;rfl
           . have:¬ ((lev:Int)-2=3):=by omega
             simp[h5,this]
   . have kH:k=(jb lev).length:=by omega
     refine⟨2*(X.L.length-j),d8,jP,j,left,b,f',false,rfl,rfl,rfl,rfl,rfl,rfl,rfl,eF,hl,nv,λ_ h=>by simp at h,?_⟩;refine S.re λhb=>?_;have TZ:=mD hb rfl;cases f' with
     | zero=>omega
     | succ f' =>
       rw[ky,J8 X.L j lev h2 h7,LN (by subst kH;exact iV hb)];rfl
end
def aal:(Nat->Option (Nat×Nat))->List (Nat×AV)->List AV->Option (List AV)
 | _,[],z=>some z
 | pl,(i,x)::rest,z=>match pl i with
   | some (o,s)=>if x.dC=true/\(al x).length=s/\o+s<=z.length then aal pl rest (ax z o (al x)) else none
   | none=>none
def CP{U:St}{K':am}{Kp:am}{n m:Nat}:∀{pl:Nat->Option (Nat×Nat)}{ps:List (Nat×AV)}{z zs:List AV},aal pl ps z=some zs->zs.length=m->K' (.vec n .full zs) U->(ja pl ps z λcs=>.cond (cs.length=m) (.val (.vec n .full cs))).wp K U K' Kp
 | pl,[],z,zs,h,hm,hk=>by cases h;rw[gS];exact⟨hm,hk⟩
 | pl,(i,x)::rest,z,zs,h,hm,hk=>by
   simp only[aal]at h;split at h
   . rename_i o s e;split at h
     . rename_i hc;rw[eg e];exact⟨hc,CP h hm hk⟩
     . cases h
   . cases h
def ahg{U:St}{R:bi}(h:R (.ret (.vec j0.length .full (j0.map .str))) U):ag K 223 [] U R:=by
 refine YP ?_;dsimp only[YO,ah,aC];rw[fN];refine⟨d6,?_⟩;exact CP (zs:=j0.map .str) (by kernel_rfl) (by rfl) (aq.mk h)
def ahi{U:St}{R:bi}(h:R (.ret (.vec fF.length .full (fF.map .str))) U):ag K 226 [] U R:=by
 refine YV ?_;dsimp only[YU,ah,aC];rw[fN];refine⟨d6,?_⟩;exact CP (zs:=fF.map .str) (by kernel_rfl) (by rfl) (aq.mk h)
def sV(t:Int×Nat×aT)(p:Nat):AV:=if t.1=0 then .az [.agg [co t.2.1,.str t.2.2,bv p],bv 0] else .az [.agg [co 0,.str [],bv 0],bv t.1]
def Qy:∀x∈fF,x≠[]/\x.length<=10/\∀d∈x.head?,dp d=false:=by decide
def abU{c:UInt8}{r:aT}(h:dp c):tm (c::r)=(4,0,[]):=by
 have:fF.find? (λx=>x.isPrefixOf (c::r))=none:=by
  rw[List.find?_eq_none];intro x hx hp;obtain⟨h1,_,h2⟩:=Qy x hx;cases x with
  | nil=>exact h1 rfl
  | cons d y =>
    have hp:=List.isPrefixOf_iff_prefix.1 hp;have:=(List.cons_prefix_cons.1 hp).1;subst this;rw[h2 d rfl]at h;cases h
 unfold tm;rw[this]
def Kg(s:aT)(p:Nat)(hp:p<=s.length)(hs:s.length<=100000):Pure K 172 [.str s,bv (p:Nat)] (sV (hY (s.drop p)) p):=by
 refine Pure.of rfl (by unfold sV;split<;>rfl) (λU=>by unfold sV;split<;>rfl) λR hR=>?_
 refine XR ?_;dsimp only[XQ,lM,cU,ql,di,ae,ak,fw,oR,aQ,ah,ar,ca,cJ,bX,aC,dr,dA];rw[dh];intro b hb;generalize qK:(cj _).new b _=U;have gz:U.box b=some [co 0,AV.str [],bv 0]:=by rw[<-qK];exact aH
 clear qK hb;refine (SB s p hp hs).go ?_;have fin:∀(cells:List AV)(e:Int)(ps:List (Nat×AV))(aa:St),aa.box b=some [co 0,AV.str [],bv 0]->ta [(0,1),(1,1),(2,1)] ps [co 0,AV.str [],bv 0]=some cells->cells.length=3->sV (hY (s.drop p)) p=.az [.agg cells,bv e] ->
  (cx (some [(0,1),(1,1),(2,1)]) (some [co 0,AV.str [],bv 0]) none ps).wp K aa (λv U=>(dD (some (true,3)) (.box b 0) v U).wp K U (λ_ U=>fV (some (true,3)) (.box b 0) U λr0=>aq R (.az [r0,bv e]) U) (aD R)) (aD R):=by
  intro cells e ps aa fi h1 hc h2;refine jC _ h1 ?_;rw[cV fi];have Dc:ax [co 0,AV.str [],bv 0] 0 (al (.agg cells))=cells:=by
   match cells,hc with
   | [x,y,z],_=>rfl
  refine⟨⟨rfl,hc,d8⟩,?_⟩;rw[rP aZ,Dc];refine⟨by simp[hc],?_⟩;rw[h2]at hR;refine aq.eq (hR _) ?_;rw[eR,pO d6]
 have ad3:hY (s.drop p)=tm (s.drop p)->ag K 226 [] U (bD (λv51 U =>
  nh 5 [.str s,bv (p:Nat),.box b 0,v51,(bv 0)] U λlp v0 v1 N6 v8 v9 U =>
   (dK (some false) v8).wp K U (λzr U =>
   (bU .lss (BT.mk false false false none false) false v9 zr).wp K U (λA9 U =>
   cX A9 (
    (bJ (some (9,1)) none v8 v9).wp K U (λQK U =>
    (bj (some (false,1)) QK U).wp K U (λQL U =>
    ag K 227 [v0,v1,QL] U (bD (λv64 U =>
    cX v64 (
     (bJ (some (9,1)) none v8 v9).wp K U (λZ3 U =>
     (bj (some (false,1)) Z3 U).wp K U (λZ4 U =>
     (cx (some [(0,1),(1,1),(2,1)]) (some [co 0,AV.str [],bv 0]) none [(0,(co 4)),(1,Z4),(2,v1)]).wp K U (λv70 U =>
     (dD (some (true,3)) N6 v70 U).wp K U (λ_ U =>
     fV (some (true,3)) N6 U λakp =>
     aq R (AV.az [akp,(bv 0)]) U) (aD R)) (aD R)) (aD R)) (aD R)) (
     (bU .add (BT.mk false false false none false) true v9 (bv 1)).wp K U (λHN U =>
     lp v0 v1 N6 v8 HN U) (aD R))) (aD R))) (aD R)) (aD R)) (
    (cx (some [(0,1),(1,1),(2,1)]) (some [co 0,AV.str [],bv 0]) none []).wp K U (λN8 U =>
    (dD (some (true,3)) N6 N8 U).wp K U (λ_ U =>
    fV (some (true,3)) N6 U λakq =>
    aq R (AV.az [akq,(bv 4)]) U) (aD R)) (aD R))) (aD R)) (aD R)) (aD R)):=λkI=>by
  refine ahi ?_;simp only[bh];refine⟨λm v0 v1 v4 v8 v9 aa=>∃k:Nat,m=fF.length-k/\k<=fF.length/\v0=.str s/\v1=bv (p:Nat)/\v4=.box b 0/\v8=.vec fF.length .full (fF.map .str)/\v9=bv (k:Nat)/\aa=U/\∀j,j<k->∀y,fF[j]?=some y->y.isPrefixOf (s.drop p)=false,
   ⟨_,0,rfl,d6,rfl,rfl,rfl,rfl,rfl,rfl,λj hj=>by omega⟩,?_⟩
  rintro m v0 v1 v4 v8 v9 aa ⟨k,rfl,hk,rfl,rfl,rfl,rfl,rfl,rfl,iV⟩;have p8:fF.length=16:=rfl;simp only[u1,aY,ad,bp];refine⟨λaA=>?_,λgL=>?_⟩
  . have aA:k<fF.length:=by omega
    have hd:(fF.map AV.str).drop ((k:Int).toNat*1)=.str fF[k]::(fF.map AV.str).drop (k+1):=by
     rw[ez,Nat.mul_one,gI (by simpa using aA)];simp
    rw[sv];refine⟨d6,?_⟩;rw[hd,ln,bI];have hg:fF[k]?=some fF[k]:=mP aA;have lg:=(Qy fF[k] (vd aA)).2.1;refine (abM s fF[k] p hp hs d6).go ?_;cases hpx:fF[k].isPrefixOf (s.drop p) with
    | true =>
      simp only[aL];rw[sv];refine⟨d6,?_⟩;rw[hd,ln,bI];refine fin _ 0 _ _ gz rfl rfl ?_;rw[kI];unfold tm;rw[Jj iV hg hpx];rfl
    | false =>
      simp only[aG,cF];refine⟨aX d6 d6,fF.length-(k+1),d6,k+1,rfl,d6,rfl,rfl,rfl,rfl,d8,rfl,λj hj y hy=>?_⟩;rcases ik j k with h|h
      . exact iV j h y hy
      . have:j=k:=by omega
        subst this;rw[hg]at hy;cases hy;exact hpx
  . have kH:k=fF.length:=by omega
    refine fin _ 4 _ _ gz rfl rfl ?_;rw[kI];unfold tm;rw[LN (by subst kH;exact iV)];rfl
 have si:hY (s.drop p)=match (s.drop p).takeWhile dp with
  | []=>tm (s.drop p)
  | c::r=>if fE c then (mO (c::r),2,c::r) else if lY c=false then (4,0,[]) else if (c::r)∈j0 then (0,3,c::r) else if 12<(c::r).length then (4,0,[]) else (0,1,c::r):=by
  unfold hY tm;simp only;cases (s.drop p).takeWhile dp<;>rfl
 have PV:((s.drop p).takeWhile dp).length<=100000:=by
  have:=(vb dp (l:=s.drop p)).length_le;simp at this;omega
 have AB:∀c r,(s.drop p).takeWhile dp=c::r->dp c/\∃r',s.drop p=c::r':=λc r h=>by
  cases hd:s.drop p with
  | nil=>rw[hd]at h;simp at h
  | cons d t =>
    rw[hd,om]at h;split at h
    . rename_i hc;cases h;exact⟨hc,t,rfl⟩
    . cases h
 cases hw:(s.drop p).takeWhile dp with
 | nil =>
   rw[hw]at si;simp only[nr,show w_=([]:List UInt8) from rfl,cC,cL,ad,aF,aw,show (false==true)=false from rfl,bB,av,bW,if_false,aG];exact ad3 si
 | cons c r =>
   rw[hw]at si PV;obtain⟨hca,r',wP⟩:=AB c r hw;have cD:¬ (c::r=w_):=by simp[show w_=([]:List UInt8) from rfl]
   simp only[nr,cD,cZ,dS,ad,aF,aw,eG,bO,ao,vN,iI];refine⟨d8,_,Kf c,?_⟩;simp only[ao,av,if_true,ad];cases lg:lY c with
   | true =>
     have hdg:fE c=false:=by
      unfold lY at lg;unfold fE;have h97:=of_decide_eq_true lg;rw[decide_eq_false_iff_not];omega
     simp only[aL];simp only[hdg,lg,bW,if_false,Bool.true_eq_false]at si;refine ahg ?_;simp only[bh];refine (Vw .full j0 (c::r) d7).go ?_
     by_cases hk:(c::r)∈j0
     . simp only[hk,cC,aL];rw[if_pos hk]at si;exact fin _ 0 _ _ gz rfl rfl (by rw[si];rfl)
     . simp only[hk,cZ,aG,ia,dq,ad,bp];rw[if_neg hk]at si;refine⟨λh=>?_,λh=>?_⟩
       . rw[if_pos d6]at si;exact fin _ 4 _ _ gz rfl rfl (by rw[si];rfl)
       . rw[if_neg d6]at si;exact fin _ 0 _ _ gz rfl rfl (by rw[si];rfl)
   | false =>
     simp only[aG];refine⟨d8,_,DL c,?_⟩;simp only[ao,av,if_true,ad];cases hdg:fE c with
     | true =>
       simp only[aL];simp only[hdg,if_true]at si;refine (Vz (c::r) PV).go ?_;simp only[ck,ad]
       by_cases he:mO (c::r)=0
       . simp only[he,cC,cL,aG];exact fin _ 0 _ _ gz rfl rfl (by rw[si];simp[sV,he];rfl)
       . simp only[he,cZ,dS,aL];exact fin _ _ _ _ gz rfl rfl (by rw[si];simp[sV,he])
     | false =>
       simp only[aG];simp only[hdg,lg,bW,if_false,if_true]at si;refine ad3 ?_;rw[si,wP,abU hca]
def Vt(s:aT):Pure K 111 [.str s] (.az [bv (pG s).1,bv (pG s).2]):=by
 intro U R hR;refine V4 ?_;dsimp only[VZ,ae,ak,mR,aQ,ah,ar,ca,fW,aC];simp only[ia,ad,dq,bp];unfold pG at hR;refine⟨λh=>?_,λh=>?_⟩
 . rw[if_pos d6]at hR;exact aq.mk hR
 . rw[if_neg d6]at hR;refine⟨λm v0 v10 aa=>∃i:Nat,m=s.length-i/\i<=s.length/\v0=.str s/\v10=bv i/\aa=U/\∀j(hj:j<s.length),j<i->kO s[j],⟨s.length,0,by simp[Fn.app]⟩,?_⟩;rintro m v0 v10 aa ⟨i,rfl,hi,rfl,rfl,rfl,cg⟩;simp only[ia,aY,ad,bp];refine⟨λaA=>?_,λgL=>?_⟩
   . have aA:i<s.length:=by omega
     rw[sZ];refine⟨d6,?_⟩;rw[ez,getD_at aA];refine (Vs s[i]).go ?_;simp only[db,ad];cases hb:kO s[i] with
     | false =>
       simp only[dS,aL];have:s.findIdx? (λc=>!kO c)=some i:=by
        rw[IG];exact⟨aA,by simp[hb],λj hj=>by simp[cg j d6 hj]⟩
       rw[this]at hR;exact aq.mk hR
     | true =>
       simp only[cL,aG,cF];refine⟨aX d6 d6,s.length-(i+1),d6,i+1,rfl,d6,rfl,d8,rfl,λj hj wQ=>?_⟩;rcases ik j i with h|h
       . exact cg j hj h
       . have:j=i:=by omega
         subst this;exact hb
   . have:s.findIdx? (λc=>!kO c)=none:=by
      rw[List.findIdx?_eq_none_iff];intro x hx;obtain⟨j,hj,rfl⟩:=List.getElem_of_mem hx;simp[cg j hj d6]
     rw[this]at hR;exact aq.mk hR
def FA(v w:AV):Prop:=∀τ n l n' l',v=.vec n (.own τ) l->w=.vec n' (.own τ) l'->False
def FA.symm{v w:AV}(h:FA v w):FA w v:=λτ n l n' l' h1 h2=>h τ n' l' n l h2 h1
def Grow.tT{U aa:St}{v:AV}{e sz n:Nat}{l:List AV}(g:Grow U v e sz n l)(h:dt U aa):Grow aa v e sz n l:=by
 rcases g with g|⟨τ,h1,h2,h3⟩
 . exact .inl g
 . exact .inr ⟨τ,h1,h.tok h2,h3⟩
def TL{U:St}{v:AV}{e sz n:Nat}{l:List AV}(h:Grow U v e sz n l):dK (some false) v=.val (bv n):=by
 rcases h with ⟨rfl,rfl,rfl⟩|⟨τ,rfl,_⟩<;>rfl
def ac7{U aa:St}{v v' w:AV}{e sz n:Nat}{l:List AV}(g:Grow U w e sz n l)(d:FA v w)
 (e1:∀b x,(∀n l,v≠.vec n (.own b) l)->U.live b=some x->aa.live b=some x) (e2:∀n τ l,v'=.vec n (.own τ) l->U.live τ=none\/∃n l,v=.vec n (.own τ) l):Grow aa w e sz n l/\FA v' w:=by
 rcases g with ⟨h1,h2,rfl⟩|⟨τ,rfl,h2,h3⟩
 . exact⟨.inl ⟨h1,h2,rfl⟩,λτ n l n' l' _ h=>by cases h⟩
 . refine⟨.inr ⟨τ,rfl,?_,h3⟩,λwZ n1 l1 n2 l2 k1 k2=>?_⟩
   . cases hx:U.live τ with
     | none=>exact absurd hx (Ky h2)
     | some x=>rw[nA ((e1 τ x (λn l hv=>d τ n l _ _ hv rfl) hx).trans hx.symm)];exact h2
   . cases k2;rcases e2 _ _ _ k1 with h|⟨n3,l3,h⟩
     . exact Ky h2 h
     . exact d τ _ _ _ _ h rfl
def afm(s:aT)(hs:s.length<=3000){U:St}{R:bi}
 (dG:∀l v7 v aa,iy s.length s 0 []=.ok l->Grow aa v 51 3 l.length (gu l)->(l=[]->v=.af)->R (.ret (.az [v,v7,bv 0,bv 0])) aa)
 (aaV:∀p e aa,iy s.length s 0 []=.bad p e->R (.ret (.az [.af,.af,bv (p:Nat),bv e])) aa):ag K 112 [.str s] U R:=by
 refine V6 ?_;dsimp only[V5,eh,zu,cU,jr,fe,KF,ae,bg,ak,Eb,gX,aQ,ah,dj,ar,ca,bX,ej,aC,dm,dr,dA];refine⟨λm v0 v6 v7 v8 aa=>∃f p l n7 l7,m=s.length-p/\v0=.str s/\v8=bv (p:Nat)/\p<=s.length/\s.length-p<=f/\l.length<=900/\n7<=p/\iy f s p l=iy s.length s 0 []/\Grow aa v6 51 3 l.length (gu l)/\(l=[]->v6=.af)/\Grow aa v7 51 3 n7 l7/\(n7=0->v7=.af)/\FA v6 v7,
  ⟨_,s.length,0,[],0,[],rfl,rfl,rfl,d6,d6,d8,d6,rfl,.inl ⟨rfl,rfl,rfl⟩,λ_=>rfl,.inl ⟨rfl,rfl,rfl⟩,λ_=>rfl,λτ n l n' l' h=>by cases h⟩,?_⟩
 rintro m v0 v6 v7 v8 aK ⟨f,p,l,n7,l7,rfl,rfl,rfl,hp,hf,Jx,hn7,fS,g6,z6,g7,z7,D⟩;simp only[ia,aY,ad,bp];refine⟨λaA=>?_,λgL=>?_⟩
 . have aA:p<s.length:=by omega
   obtain⟨f,rfl⟩:∃f',f=f'+1:=⟨f-1,d6⟩;have wP:s.drop p=s[p]::s.drop (p+1):=gI aA;rw[iy,wP]at fS;simp only at fS;have blank:(s[p].toNat=32\/s[p].toNat=10)->(bU .add (BT.mk false false false none false) true (bv (p:Nat)) (bv 1)).wp K aK (λA8 U=>Fn.lam 4 (λvs U=>∃m',m'<s.length-p/\Fn.app 4 (λv0 v6 v7 v8 aa=>∃f p l n7 l7,m'=s.length-p/\v0=.str s/\v8=bv (p:Nat)/\p<=s.length/\s.length-p<=f/\l.length<=900/\n7<=p/\iy f s p l=iy s.length s 0 []/\Grow aa v6 51 3 l.length (gu l)/\(l=[]->v6=.af)/\Grow aa v7 51 3 n7 l7/\(n7=0->v7=.af)/\FA v6 v7) vs U) (.str s) v6 v7 A8 U) (aD R):=λCn=>by
    rw[if_pos Cn]at fS;rw[cF];exact⟨aX d6 d6,s.length-(p+1),d6,f,p+1,l,n7,l7,rfl,rfl,d8,d6,d6,Jx,d6,fS,g6,z6,g7,z7,D⟩
   rw[sZ];refine⟨d6,?_⟩;rw[ez,getD_at aA];simp only[aN,ad]
   by_cases h32:s[p].toNat=32
   . have:((s[p].toNat:Int)=32):=by omega
     simp only[this,cC,aF,show (true==false)=false from rfl,aw,bB,jd,av,if_true,ad,aL];exact blank (.inl h32)
   . have:¬ ((s[p].toNat:Int)=32):=by omega
     simp only[this,cZ,aF,eG,aw,bO,ao,vN,ez,getD_at aA,aN,av,bW,if_false,ad];refine⟨d6,?_⟩
     by_cases n0:s[p].toNat=10
     . have:((s[p].toNat:Int)=10):=by omega
       simp only[this,cC,aL];exact blank (.inr n0)
     . have:¬ ((s[p].toNat:Int)=10):=by omega
       simp only[this,cZ,aG];rw[if_neg d6]at fS;rw[sZ];refine⟨d6,?_⟩;rw[ez,getD_at aA];simp only[aN,ad,bp];refine⟨λC4=>?_,λC4=>?_⟩
       . rw[if_pos d6]at fS;rw[<-wP]at fS;have hnl:((s.drop p).takeWhile λc=>decide (c.toNat≠10)).length+p<=s.length:=by
          have:=(vb (λc:UInt8=>decide (c.toNat≠10)) (l:=s.drop p)).length_le;simp only[List.length_drop]at this;omega
         have Az:1<=((s.drop p).takeWhile λc=>decide (c.toNat≠10)).length:=by
          rw[wP,om,if_pos (by simpa using n0)];simp
         refine (Sy s p d6 d6).go ?_;generalize ((s.drop p).takeWhile λc=>decide (c.toNat≠10))=nt at fS hnl Az ⊢;simp only[nz,kj,gp,wp_cond,ad];refine⟨⟨d6,d6,d6⟩,?_⟩;refine jC [co 5,.str _,bv (p:Nat)] rfl ?_;rw[fN];refine⟨d6,?_⟩;rw[eg (o:=0) (s:=3) rfl];refine⟨⟨rfl,rfl,by simp[bZ]⟩,?_⟩;rw[gS];refine⟨rfl,?_⟩;refine Ce (m:=1) g7 rfl rfl d6 d6 z7 λaV v7' k1 k2 k3=>?_;obtain⟨g6',D'⟩:=ac7 g6 D.symm k2 k3;simp only[ia,ad,cF];exact⟨aX d6 d6,s.length-(p+nt.length),d6,f,p+nt.length,l,n7+1,_,rfl,rfl,d8,d6,d6,Jx,d6,fS,g6',z6,k1,λh=>by omega,D'.symm⟩
       . rw[if_neg d6]at fS;rw[<-wP]at fS;refine (Kg s p hp d6).go ?_;cases kI:hY (s.drop p) with
         | mk e kt =>
         obtain⟨k,tx⟩:=kt;rw[kI]at fS;simp only at fS;have cells:∃cs,sV (e,k,tx) p=.az [.agg cs,bv e]/\cs.length=3/\(e=0->cs=jD ⟨k,tx,p⟩):=by
          unfold sV
          by_cases he:e=0
          . subst he;exact⟨_,rfl,rfl,λ_=>rfl⟩
          . rw[if_neg he];exact⟨_,rfl,rfl,λh=>absurd h he⟩
         obtain⟨cs,wh,hc3,Jr⟩:=cells;rw[wh];simp only[bN,List.drop,bI];rw[dh];intro b hb;rw[cV aH];refine⟨⟨rfl,hc3,d8⟩,?_⟩;have e7:=((dt.refl aK).new (x:=.box [co 0,AV.str [],bv 0]) hb).set (x:=.box (ax [co 0,AV.str [],bv 0] 0 (al (.agg cs)))) hb.1;have Dc:ax [co 0,AV.str [],bv 0] 0 (al (.agg cs))=cs:=by
          match cs,hc3 with
          | [x,y,z],_=>rfl
         have tD:((aK.new b (.box [co 0,AV.str [],bv 0])).set b (.box (ax [co 0,AV.str [],bv 0] 0 (al (.agg cs))))).box b=some cs:=by rw[aZ,Dc]
         generalize (aK.new b (.box [co 0,AV.str [],bv 0])).set b (.box (ax [co 0,AV.str [],bv 0] 0 (al (.agg cs))))=aV at e7 tD ⊢
         replace g6:=g6.tT e7
         replace g7:=g7.tT e7
         intro j hj;have bad:∀e':Int,e'≠0->iy s.length s 0 []=.bad p e'->j (.str s) v6 v7 (bv (p:Nat)) (.box b 0) (bv e') aV:=λe' n6 hl=>by
          refine hj _ _ _ _ _ _ _ ?_;simp only[ck,ad,n6,cZ,dS,aL];exact aq.mk (aaV p e' _ hl)
         have LY:e=0->l.length≠900->j (.str s) v6 v7 (bv (p:Nat)) (.box b 0) (bv 0) aV:=λhe aaU=>by
          have ajv:=Jr he;subst ajv;subst he;rw[if_neg d8,if_neg aaU]at fS;have ub:p+tx.length<=s.length:=by
           have:=(A6 kI).2.length_le;simp at this;omega
          have mT:=(A6 kI).1.1;have ht1:0<tx.length:=List.length_pos_iff.2 mT;refine hj _ _ _ _ _ _ _ ?_;simp only[ck,ad,cC,cL,aG];rw[mK tD];refine⟨by simp[jD],?_⟩;rw[fN];refine⟨d6,?_⟩;rw[eg (o:=0) (s:=3) rfl];refine⟨⟨rfl,rfl,by simp[bZ]⟩,?_⟩;rw[gS];refine⟨rfl,?_⟩;refine Ce (m:=1) (l2:=jD ⟨k,tx,p⟩) g6 rfl rfl d6 d6 (λh=>z6 (ti.1 h)) λbG v6' k1 k2 k3=>?_;obtain⟨g7',D'⟩:=ac7 g7 D k2 k3;have GP:=(ly g6 k2).1 tD;simp only[aP,ad,cK];rw[gJ GP];simp only[jD,List.drop,bI,ia,ad,cF];refine⟨aX d6 d6,s.length-(p+tx.length),d6,f,p+tx.length,l++[⟨k,tx,p⟩],n7,l7,rfl,rfl,d8,d6,d6,by simp;omega,d6,fS,?_,λh=>by simp at h,g7',z7,D'⟩;rw[vP,show (l++[(⟨k,tx,p⟩:Tk)]).length=l.length+1 by simp];simpa [gu] using k1
         have hlen:dK (some false) v6=.val (bv l.length):=TL g6;simp only[aN,ad,aF,aw]
         by_cases tX:e=0
         . subst tX;simp only[cC,eG,bO,hlen,ao,aN,av,if_true,ad,bp];refine⟨λh=>?_,λh=>LY rfl d6⟩;rw[if_neg d8,if_pos d6]at fS;exact bad 5 d6 fS.symm
         . simp only[tX,cZ,show (false==true)=false from rfl,bB,jd,av,bW,if_false,ad,aG];rw[if_pos tX]at fS;exact bad e tX fS.symm
 . have hd0:s.drop p=[]:=List.drop_eq_nil_of_le d6;have Ub:iy s.length s 0 []=.ok l:=by
    rw[<-fS];cases f with
    | zero=>rfl
    | succ f=>simp only[iy];rw[hd0]
   exact aq.mk (dG l _ _ _ Ub g6 z6)
def DS(s:aT)(hs:s.length<=3000):Pure K 57 [.str s] (qh (lF s)):=by
 refine Pure.of' rfl (by cases lF s with|ok l=>simp[qh,closed,cW,EO]|bad p e=>rfl) λR hR=>?_
 refine aca ?_;dsimp only[adF,ae,ak,ah,ar,dm];refine (Vt s).go ?_;simp only[bN,List.drop,bI,ck,ad];have fS:lF s=if (pG s).2≠0 then .bad (pG s).1 (pG s).2 else iy s.length s 0 []:=rfl
 by_cases he:(pG s).2=0
 . simp only[he,cC,cL,aG];rw[if_neg (by simp[he])]at fS;rw[fS]at hR;refine afm s hs (λl v7 v aa h1 g z=>?_) λp e aa h1=>?_
   . simp only[bh,bN,List.drop,bI];refine aq.mk (hR _ _ ?_);rw[h1];show AV.az [resolve 4 aa v,bv 0,bv 0]=_;rw[DO 2 g z];rfl
   . simp only[bh,bN,List.drop,bI];refine aq.mk (hR _ _ ?_);rw[h1];rfl
 . simp only[he,cZ,dS,aL];rw[if_pos he]at fS;refine aq.mk (hR _ (cj ⟨.e,0⟩) ?_);rw[fS];rfl
def GK{c:Prop}[Decidable c]{x:AV}{f:AV->aW}{q:Bool}{U:St}{K':am}{Kp:am}(hf:c->f x=.val (.bool q))(hk:K' (.bool (decide c&&q)) U) :
 aI K (cq (.bool (decide c)) true) (aW.val x) λv6=>aI K (cq (.bool (decide c)) true) (f v6) λv7=>(fP (.bool (decide c)) v7 ci).wp K U K' Kp:=by
 by_cases hc:c
 . simp only[hc,cC,aF,eG,aw,bO,ao,hf hc,av,if_true,ad];simpa [hc] using hk
 . simp only[hc,cZ,aF,show (false==true)=false from rfl,aw,bB,av,bW,if_false,ad];simpa [hc] using hk
def zD{p:Bool}{x:AV}{f:AV->aW}{q:Bool}{U:St}{K':am}{Kp:am}(hf:p=false->f x=.val (.bool q))(hk:K' (.bool (p||q)) U) :
 aI K (cq (.bool p) false) (aW.val x) λv6=>aI K (cq (.bool p) false) (f v6) λv7=>(fP (.bool p) ce v7).wp K U K' Kp:=by
 cases p with
 | true =>
   simp only[aF,show (true==false)=false from rfl,aw,bB,av,if_true,ad];simpa using hk
 | false =>
   simp only[aF,eG,aw,bO,ao,hf rfl,av,bW,if_false,ad];simpa using hk
def vI(k:Int):Pure K 141 [co k] (.bool (jH k)):=by
 intro U R hR;refine WZ ?_;dsimp only[WY,jr,fe,ah,ar,bX];rw[aN,ad];refine zD (λ_=>aN ..) (aq.eq hR ?_);simp only[jH,AV.bool.injEq];grind
def qt(k:Int):Pure K 142 [co k] (.bool (cP k)):=by
 intro U R hR;refine W1 ?_;dsimp only[W0,eh,cU,ah,ar,bX];rw[eX,ad];refine GK (λ_=>iC ..) (aq.eq hR ?_);simp only[cP,AV.bool.injEq];grind
def vJ(k:Int):Pure K 191 [co k] (.bool (jI k)):=by
 intro U R hR;refine Yh ?_;dsimp only[Yg,eh,cU,ah,ar,bX];rw[eX,ad];refine GK (λ_=>iC ..) (aq.eq hR ?_);simp only[jI,AV.bool.injEq];grind
def zI(k:Int):Pure K 139 [co k] (.bool (fJ k)):=by
 intro U R hR;refine WV ?_;dsimp only[WU,jr,fe,ae,ah,bX];refine (vI k).go ?_;refine zD (λ_=>aN ..) (aq.eq hR ?_);simp only[jH,fJ,AV.bool.injEq];grind
def vG(k:Int):Bool:=decide (k=6\/k=7\/k=12\/k=14\/k=25\/k=26)
def C5(k:Int):Pure K 136 [co k] (.bool (vG k)):=by
 intro U R hR;refine WO ?_;dsimp only[WN,jr,fe,ae,ah,bX];refine (vI k).go ?_;refine zD (λ_=>aN ..) ?_;refine zD (λ_=>aN ..) ?_;refine zD (λ_=>aN ..) ?_;refine zD (λ_=>aN ..) (aq.eq hR ?_);simp only[jH,vG,AV.bool.injEq];grind
def G9(n:Int):Pure K 137 [bv n] (.bool (ek n)):=by
 intro U R hR;refine WR ?_;dsimp only[WQ,eh,cU,ah,ar,bX];rw[eX,ad];refine GK (λ_=>iC ..) (aq.eq hR ?_);simp only[ek,AV.bool.injEq];grind
def nV(k:Int):Bool:=decide (k=2\/k=3\/k=4\/k=5\/k=12\/k=13\/k=14\/k=16\/k=31\/k=32\/k=33\/k=34\/k=37)
def TR(k:Int):Pure K 134 [co k] (.bool (nV k)):=by
 intro U R hR;refine WK ?_;dsimp only[WJ,ak,vw,aQ,ah,ar];intro j hj;simp only[aN,ad,bp];have yes:nV k->∀b,b=true->j (.bool b) U:=λh b hb=>by
  subst hb;refine hj _ _ ?_;simp only[aL];rw[h]at hR;exact aq.mk hR
 have no:nV k=false->∀b,b=false->j (.bool b) U:=λh b hb=>by
  subst hb;refine hj _ _ ?_;simp only[aG];rw[h]at hR;exact aq.mk hR
 iterate 12
  refine⟨λh=>yes (by simp only[nV,dU];omega) _ (by simpa using h),λ_=>?_⟩
 by_cases h:k=37
 . exact yes (by simp only[nV,dU];omega) _ (by simpa using h)
 . exact no (by simp only[nV,decide_eq_false_iff_not];omega) _ (by simpa using h)
def Dj(n:Nat)(s:aT)(a:Int)(hs:s.length<=100000):Pure K 211 [.agg [co n,.str s,bv a]] (.bool (decide (s≠[]/\hY s=(0,n,s)))):=by
 refine Pure.of rfl rfl (λU=>rfl) λR hR=>?_;refine YB ?_;dsimp only[YA,fR,qk,ae,bg,ak,ah,ar,dI,bX,dm,dr,dA];rw[fg rfl];intro b1 gz;have m1:((cj ⟨.e,0⟩).new b1 (.box (al (.agg [co n,.str s,bv a])))).box b1=some [co n,.str s,bv a]:=aH;generalize (cj _).new b1 _=aj at *;clear gz;simp only[aP,ad,cK];rw[gJ m1];simp only[List.drop,bI,hU,ad,bp,aP,cK];refine⟨λh0=>?_,λh0=>?_⟩
 . have h0:s=[]:=h0;refine aq.eq (hR _) ?_;simp[h0]
 . have h0:s≠[]:=h0;rw[gJ m1];simp only[List.drop,bI];refine (Kg s 0 d6 hs).go ?_;rw[eR];have key:∀(c1:List AV)(e:Int),sV (hY s) 0=.az [.agg c1,bv e]->c1.length=3->(∃(k2:Nat)(t2:aT)(a2:Int),c1=[co k2,.str t2,bv a2]/\(decide (s≠[]/\hY s=(0,n,s))=(decide (e=0)&&(decide ((k2:Int)=n)&&decide (t2=s))))) ->
    (jt (.az [.agg c1,bv e]) 0).wp K aj (λv12 U =>
   (jt (.az [.agg c1,bv e]) 1).wp K U (λsb U =>
   (aW.mU [co 0,AV.str [],bv 0]).wp K U (λv3 U =>
   (dD (some (true,3)) v3 v12 U).wp K U (λ_ U =>
   (bU .eql (BT.mk false false false none false) true sb (bv 0)).wp K U (λnT U =>
   aI K (cq nT true) (bu (some 0) v3) (λzn =>
   aI K (cq nT true) (bj (some (false,1)) zn U) (λzo =>
   aI K (cq nT true) (bu (some 0) (.box b1 0)) (λrB =>
   aI K (cq nT true) (bj (some (false,1)) rB U) (λv20 =>
   aI K (cq nT true) (bU .eql (BT.mk false false false none false) false zo v20) (λv21 =>
   (fP nT v21 ci).wp K U (λtO U =>
   aI K (cq tO true) (bu (some 1) v3) (λv24 =>
   aI K (cq tO true) (bj (some (false,1)) v24 U) (λv25 =>
   aI K (cq tO true) (bu (some 1) (.box b1 0)) (λZY =>
   aI K (cq tO true) (bj (some (false,1)) ZY U) (λA8 =>
   aI K (cq tO true) (bU .eql (BT.mk false false false none false) false v25 A8) (λv28 =>
   (fP tO v28 ci).wp K U (λsd U =>
   aq R sd U) (aD R))))))) (aD R))))))) (aD R)) (aD R)) (aD R)) (aD R)) (aD R):=by
    rintro c1 e-yR ⟨k2,t2,a2,rfl,hd⟩;simp only[bN,List.drop,bI];rw[dh];intro b3 kF;have n31:=kF.cA m1;have m3:(aj.new b3 (.box [co 0,AV.str [],bv 0])).box b3=some [co 0,AV.str [],bv 0]:=aH;have MV:=(bK kF (x:=.box [co 0,AV.str [],bv 0])).bq m1;generalize aj.new b3 (.box [co 0,AV.str [],bv 0])=aK at *;rw[cV m3];refine⟨⟨rfl,rfl,d8⟩,?_⟩;have g3:(aK.set b3 (.box (ax [co 0,AV.str [],bv 0] 0 (al (.agg [co k2,.str t2,bv a2]))))).box b3=some [co k2,.str t2,bv a2]:=by rw[aZ];rfl
    have g1:(aK.set b3 (.box (ax [co 0,AV.str [],bv 0] 0 (al (.agg [co k2,.str t2,bv a2]))))).box b1=some [co n,.str s,bv a]:=by rw[bf n31];exact MV
    generalize aK.set b3 (.box (ax [co 0,AV.str [],bv 0] 0 (al (.agg [co k2,.str t2,bv a2]))))=aV at *;simp only[aN,ad];rw[hd]at hR
    by_cases he:e=0
    . simp only[he,cC,aF,eG,aw,bO,aP,ao,cK,nM g3,nM g1,List.drop,gg,aN,av,if_true,ad]
      by_cases hk:(k2:Int)=n
      . simp only[hk,cC,aF,eG,aw,bO,aP,ao,cK,nM g3,nM g1,List.drop,gg,hU,av,if_true,ad];refine aq.eq (hR _) ?_;simp[he,hk]
      . simp only[hk,cZ,aF,show (false==true)=false from rfl,aw,bB,av,bW,if_false,ad];refine aq.eq (hR _) ?_;simp[he,hk]
    . simp only[he,cZ,aF,show (false==true)=false from rfl,aw,bB,av,bW,if_false,ad];refine aq.eq (hR _) ?_;simp[he]
   obtain⟨⟨e,k2,t2⟩,ht⟩:∃p,hY s=p:=⟨_,rfl⟩;rw[ht];unfold sV
   by_cases he:e=0
   . rw[if_pos he];refine key _ _ ?_ rfl ⟨k2,t2,_,rfl,?_⟩
     . unfold sV;rw[ht,if_pos he]
     . have e3:((k2:Int)=(n:Int))=(k2=n):=by simp;omega
       simp only[ht,jK,he,e3];simp[h0]
   . rw[if_neg he];refine key _ _ ?_ rfl ⟨0,[],0,rfl,?_⟩
     . unfold sV;rw[ht,if_neg he]
     . rw[ht];simp[he]
def OF(s:aT)(hs:s.length<=100000):Pure K 135 [.str s] (.bool (gr s)):=by
 intro U R hR;refine WM ?_;dsimp only[WL,ae,ah,aC];refine jC [co 1,.str s,bv 0] rfl ?_;refine (Dj 1 s 0 hs).go ?_;refine aq.eq hR ?_;unfold gr;have:hY s=(0,1,s)->s≠[]:=λh e=>by subst e;revert h;decide
 rw[AV.bool.injEq,decide_eq_decide];exact⟨λh=>h.2,λh=>⟨this h,h⟩⟩
def iW(ks:List Int):List AV:=ks.map (.int .u8)
def Ip{ks:List Int}{i:Nat}{k:Int}(h:ks[i]?=some k):∃r,(iW ks).drop i=co k::r:=by
 have aA:=(dw.1 h).1;refine⟨(iW ks).drop (i+1),?_⟩;rw[gI (by simpa [iW] using aA)];have:=(dw.1 h).2;simp[iW,this]
section
variable {U:St}{v:AV}{ks:List Int}{i:Nat}{k:Int}{e:Nat}{K':am}{Kp:am}{kq:AV->Prop}
def acX(hv:dz v ks.length (iW ks))(hk:ks[i]?=some k)(h:K' (co k) U) :
 (bJ (some (e,1)) none v (bv (i:Nat))).wp K U (λp U=>(bj (some (false,1)) p U).wp K U K' Kp) Kp:=by
 have aA:=(dw.1 hk).1;obtain⟨c,rfl,nx⟩:=hv.at (sz:=1) (e:=e) aA;obtain⟨r,hr⟩:=Ip hk;rw[nx,Nat.mul_one,hr];exact⟨d6,h⟩
def LV(hv:dz v ks.length (iW ks))(hk:ks[i]?=some k)(h:kq (co k)) :
 aI K ce (bJ (some (e,1)) none v (bv (i:Nat))) λp=>aI K ce (bj (some (false,1)) p U) kq:=by
 have aA:=(dw.1 hk).1;obtain⟨c,rfl,nx⟩:=hv.at (sz:=1) (e:=e) aA;obtain⟨r,hr⟩:=Ip hk;rw[nx,Nat.mul_one,hr];exact lS ⟨d6,lS h⟩
def xD{f:FuncId}{x:AV}(h:Pure K f args x)(hk:kq x):aI K ce (aW.enter f args) kq:=lS ⟨x,h,hk⟩
end
variable {p:Int->Bool}
def HY{f:FuncId}{U:St}{R:bi}{v:AV}{ks:List Int}(hv:dz v ks.length (iW ks))(hl:ks.length<=100000)(hp:∀k,Pure K f [co k] (.bool (p k)))(h:R (.ret (.bool (ks.all p))) U) :
 nh 2 [v,(bv 0)] U λlp v0 v3 U =>
 (dK (some false) v0).wp K U (λv6 U =>
 (bU .lss (BT.mk false false false none false) false v3 v6).wp K U (λv7 U =>
 cX v7 (
  (bJ (some (5,1)) none v0 v3).wp K U (λv12 U =>
  (bj (some (false,1)) v12 U).wp K U (λsb U =>
  ag K f [sb] U (bD (λD5 U =>
  (yx .not D5).wp K U (λnT U =>
  cX nT (
   aq R ci U) (
   (bU .add (BT.mk false false false none false) true v3 (bv 1)).wp K U (λv9 U =>
   lp v0 v9 U) (aD R))) (aD R)) (aD R))) (aD R)) (aD R)) (
  aq R ce U)) (aD R)) (aD R):=by
 refine⟨λm v0 v3 aa=>∃i:Nat,m=ks.length-i/\i<=ks.length/\v0=v/\v3=bv (i:Nat)/\aa=U/\(ks.take i).all p,⟨_,0,rfl,d6,rfl,rfl,rfl,d8⟩,?_⟩;rintro m v0 v3 aa ⟨i,rfl,hi,rfl,rfl,rfl,cg⟩;have hlen:dK (some false) v0=.val (bv ks.length):=hv.len;simp only[hlen,aY,ad,bp];refine⟨λaA=>?_,λgL=>?_⟩
 . have aA:i<ks.length:=by omega
   have hx:ks[i]?=some ks[i]:=by simp[aA]
   refine acX hv hx ((hp _).go ?_);simp only[db,ad];cases wj:p ks[i] with
   | true =>
     simp only[cL,aG,cF];refine⟨aX d6 d6,ks.length-(i+1),d6,i+1,rfl,d6,rfl,d8,rfl,?_⟩;rw[nP,hx,List.all_append,cg];simp[wj]
   | false =>
     simp only[dS,aL];have:ks.all p=false:=by
      cases hb:ks.all p with
      | false=>rfl
      | true=>rw[fQ]at hb;rw[hb _ (vd aA)]at wj;cases wj
     rw[this]at h;exact aq.mk h
 . have hi:i=ks.length:=by omega
   subst hi;rw[oO]at cg;rw[cg]at h;exact aq.mk h
section
variable {v:AV}{ks:List Int}
def Lo(hv:dz v ks.length (iW ks))(hl:ks.length<=100000):Pure K 138 [v] (.bool (ks.all jI)):=λU R hR=>by
 refine WT ?_;dsimp only[WS,di,ae,ak,mR,aQ,ah,ar,ca,cJ,fW];exact HY hv hl vJ hR
def Ln(hv:dz v ks.length (iW ks))(hl:ks.length<=100000):Pure K 143 [v] (.bool (ks.all jH)):=λU R hR=>by
 refine W3 ?_;dsimp only[W2,di,ae,ak,mR,aQ,ah,ar,ca,cJ,fW];exact HY hv hl vI hR
def tR(hv:dz v ks.length (iW ks))(hl:ks.length<=100000):Pure K 144 [v] (.bool (ks.all cP)):=λU R hR=>by
 refine W5 ?_;dsimp only[W4,di,ae,ak,mR,aQ,ah,ar,ca,cJ,fW];exact HY hv hl qt hR
def QV(hv:dz v ks.length (iW ks))(hl:ks.length<=100000)(c:Int):Pure K 140 [v,co c] (.bool (ks.all λk=>decide (k=c))):=λU R h=>by
 refine WX ?_;dsimp only[WW,di,ak,fU,aQ,ah,ar,ca,cJ];refine⟨λm v0 v1 v3 aa=>∃i:Nat,m=ks.length-i/\i<=ks.length/\v0=v/\v1=co c/\v3=bv (i:Nat)/\aa=U/\(ks.take i).all (λk=>decide (k=c)),⟨_,0,rfl,d6,rfl,rfl,rfl,rfl,d8⟩,?_⟩;rintro m v0 v1 v3 aa ⟨i,rfl,hi,rfl,rfl,rfl,rfl,cg⟩;have hlen:dK (some false) v0=.val (bv ks.length):=hv.len;simp only[hlen,aY,ad,bp];refine⟨λaA=>?_,λgL=>?_⟩
 . have aA:i<ks.length:=by omega
   have hx:ks[i]?=some ks[i]:=by simp[aA]
   refine acX hv hx ?_;rw[ck,ad]
   by_cases wj:ks[i]=c
   . simp only[wj,cC,cL,aG,cF];refine⟨aX d6 d6,ks.length-(i+1),d6,i+1,rfl,d6,rfl,rfl,d8,rfl,?_⟩;rw[nP,hx,List.all_append,cg];simp[wj]
   . simp only[wj,cZ,dS,aL];have:ks.all (λk=>decide (k=c))=false:=by
      cases hb:ks.all (λk=>decide (k=c)) with
      | false=>rfl
      | true=>rw[fQ]at hb;exact absurd (of_decide_eq_true (hb _ (vd aA))) wj
     rw[this]at h;exact aq.mk h
 . have hi:i=ks.length:=by omega
   subst hi;rw[oO]at cg;rw[cg]at h;exact aq.mk h
def Oe(hv:dz v ks.length (iW ks))(hl:ks.length<=100000):Pure K 145 [v] (.bool (ks.all lh)):=λU R h=>by
 refine W7 ?_;dsimp only[W6,Ea,eh,cU,di,ae,ak,mR,aQ,ah,ar,ca,cJ,bX,fW];refine⟨λm v0 v3 aa=>∃i:Nat,m=ks.length-i/\i<=ks.length/\v0=v/\v3=bv (i:Nat)/\aa=U/\(ks.take i).all lh,⟨_,0,rfl,d6,rfl,rfl,rfl,d8⟩,?_⟩;rintro m v0 v3 aa ⟨i,rfl,hi,rfl,rfl,rfl,cg⟩;have hlen:dK (some false) v0=.val (bv ks.length):=hv.len;simp only[hlen,aY,ad,bp];refine⟨λaA=>?_,λgL=>?_⟩
 . have aA:i<ks.length:=by omega
   have hx:ks[i]?=some ks[i]:=by simp[aA]
   have LY:lh ks[i]->(bU .add (BT.mk false false false none false) true (bv (i:Nat)) (bv 1)).wp K aa (λv9 U=>(∃m',m'<ks.length-i/\∃i_1:Nat,m'=ks.length-i_1/\i_1<=ks.length/\v0=v0/\v9=bv (i_1:Nat)/\U=aa/\(ks.take i_1).all lh)) (aD R):=λwj=>by
    rw[cF];refine⟨aX d6 d6,ks.length-(i+1),d6,i+1,rfl,d6,rfl,d8,rfl,?_⟩;rw[nP,hx,List.all_append,cg];simp[wj]
   have bad:lh ks[i]=false->aq R ci aa:=λwj=>by
    have:ks.all lh=false:=by
     cases hb:ks.all lh with
     | false=>rfl
     | true=>rw[fQ]at hb;rw[hb _ (vd aA)]at wj;cases wj
    rw[this]at h;exact aq.mk h
   refine acX hv hx ((qt _).go ?_);simp only[db,ad];cases ht:cP ks[i] with
   | true =>
     simp only[cL,aF,show (false==true)=false from rfl,aw,bB,av,bW,if_false,ad,aG];exact LY (by simp only[cP,lh,dU]at ht ⊢;omega)
   | false =>
     simp only[dS,aF,eG];refine fD (fD (LV hv hx ?_));rw[ck];refine fD ?_;simp only[av,if_true,ad]
     by_cases h5:ks[i]=35
     . simp only[h5,cC,cL,aF,show (false==true)=false from rfl,aw,bB,av,bW,if_false,ad,aG];exact LY (by rw[h5];rfl)
     . simp only[h5,cZ,dS,aF,eG];refine fD (fD (LV hv hx ?_));rw[ck];refine fD ?_;simp only[av,if_true,ad]
       by_cases h6:ks[i]=36
       . simp only[h6,cC,cL,aG];exact LY (by rw[h6];rfl)
       . simp only[h6,cZ,dS,aL];exact bad (by simp only[cP,lh,decide_eq_false_iff_not]at ht ⊢;omega)
 . have hi:i=ks.length:=by omega
   subst hi;rw[oO]at cg;rw[cg]at h;exact aq.mk h
end
def tU(k:Int)(ks:List Int):Bool:=match bS k with|some f=>dB ks f.kids|none=>false
def sC{k:Int}(h:k<1\/37<k):bS k=none:=by
 unfold bS
 repeat rw[if_neg d6]
variable {cb:Bool}
section
variable {U:St}{R:bi}{v:AV}{ks:List Int}{c:Prop}[Decidable c]{q:Bool}{f:FuncId}{Kp:am}{K':am}{Kp:am}
def uZ(hp:Pure K f [v] (.bool q))(hk:K' (.bool (decide c&&q)) U) :
 aI K (cq (.bool (decide c)) true) (aW.val v) λv90=>aI K (cq (.bool (decide c)) true) (aW.enter f [v90]) λv91=>(fP (.bool (decide c)) v91 ci).wp K U K' Kp:=by
 by_cases hc:c
 . simp only[hc,cC,aF,eG];refine fD (xD hp ?_);simp only[av,if_true,ad];simpa [hc] using hk
 . simp only[hc,cZ,aF,show (false==true)=false from rfl,aw,bB,av,bW,if_false,ad];simpa [hc] using hk
def FO{i:Int}{e:Nat}(hv:dz v ks.length (iW ks))(hp:∀k,Pure K f [co k] (.bool (p k)))(hi:cb->0<=i/\i<ks.length)(hk:K' (.bool (cb&&p (ks.getD i.toNat 0))) U) :
 aI K (cq (.bool cb) true) (aW.val v) λrB=>aI K (cq (.bool cb) true) (bJ (some (e,1)) none rB (bv i)) λv20=>aI K (cq (.bool cb) true) (bj (some (false,1)) v20 U) λv21 =>
  aI K (cq (.bool cb) true) (aW.enter f [v21]) λtO=>(fP (.bool cb) tO ci).wp K U K' Kp:=by
 cases cb with
 | true =>
   obtain⟨h0,h1⟩:=hi rfl;obtain⟨j,rfl⟩:∃j:Nat,i=j:=⟨i.toNat,d6⟩;have aA:j<ks.length:=by omega
   have hx:ks[j]?=some ks[j]:=by simp[aA]
   simp only[aF,eG];refine fD (LV hv hx (xD (hp _) ?_));simp only[av,if_true,ad];have:ks.getD (j:Int).toNat 0=ks[j]:=by rw[ez,pq,hx];rfl
   rw[this]at hk;simpa using hk
 | false =>
   simp only[aF,show (false==true)=false from rfl,aw,bB,av,bW,if_false,ad];simpa using hk
def UK{i c:Int}{e:Nat}{bt:BT}{lb:Bool}(hv:dz v ks.length (iW ks))(hi:cb->0<=i/\i<ks.length)(hk:K' (.bool (cb&&decide (ks.getD i.toNat 0=c))) U) :
 aI K (cq (.bool cb) true) (aW.val v) λrB=>aI K (cq (.bool cb) true) (bJ (some (e,1)) none rB (bv i)) λv20=>aI K (cq (.bool cb) true) (bj (some (false,1)) v20 U) λv21 =>
  aI K (cq (.bool cb) true) (bU .eql bt lb v21 (co c)) λtO=>(fP (.bool cb) tO ci).wp K U K' Kp:=by
 cases cb with
 | true =>
   obtain⟨h0,h1⟩:=hi rfl;obtain⟨j,rfl⟩:∃j:Nat,i=j:=⟨i.toNat,d6⟩;have aA:j<ks.length:=by omega
   have hx:ks[j]?=some ks[j]:=by simp[aA]
   simp only[aF,eG];refine fD (LV hv hx ?_);rw[aN];refine fD ?_;simp only[av,if_true,ad];have:ks.getD (j:Int).toNat 0=ks[j]:=by rw[ez,pq,hx];rfl
   rw[this]at hk;simpa using hk
 | false =>
   simp only[aF,show (false==true)=false from rfl,aw,bB,av,bW,if_false,ad];simpa using hk
def FN{b:Nat}{e:Nat}(hv:dz v ks.length (iW ks))(hl:ks.length<=100000)(hp:∀k,Pure K f [co k] (.bool (p k)))(hb:0<b)(hi:cb->b<=ks.length)(hk:K' (.bool (cb&&p (ks.getD (ks.length-b) 0))) U) :
 aI K (cq (.bool cb) true) (aW.val v) λv37=>aI K (cq (.bool cb) true) (aW.val (bv ks.length)) λKA=>aI K (cq (.bool cb) true) (bU .sub (BT.mk false false false none false) true KA (bv (b:Nat))) λZZ =>
  aI K (cq (.bool cb) true) (bJ (some (e,1)) none v37 ZZ) λv20=>aI K (cq (.bool cb) true) (bj (some (false,1)) v20 U) λv21 =>
  aI K (cq (.bool cb) true) (aW.enter f [v21]) λtO=>(fP (.bool cb) tO ci).wp K U K' Kp:=by
 cases cb with
 | true =>
   have hi:=hi rfl;have aA:ks.length-b<ks.length:=by omega
   have hx:ks[ks.length-b]?=some ks[ks.length-b]:=by simp[aA]
   simp only[aF,eG];refine fD (fD ?_);rw[jA,il];refine lS ⟨aX d6 d6,?_⟩;rw[ao,show (ks.length:Int)-b=((ks.length-b:Nat):Int) by omega];refine LV hv hx (xD (hp _) ?_);simp only[av,if_true,ad];have:ks.getD (ks.length-b) 0=ks[ks.length-b]:=by rw[pq,hx];rfl
   rw[this]at hk;simpa using hk
 | false =>
   simp only[aF,show (false==true)=false from rfl,aw,bB,av,bW,if_false,ad];simpa using hk
def JV{b:Nat}{e:Nat}{cc:Int}(hv:dz v ks.length (iW ks))(hl:ks.length<=100000)(hb:0<b)(hi:c->b<=ks.length)(hk:K' (.bool (decide c&&(ks.take (ks.length-b)).all λk=>decide (k=cc))) U) :
 aI K (cq (.bool (decide c)) true) (aW.val v) λv30=>aI K (cq (.bool (decide c)) true) (aW.val (bv ks.length)) λv31=>aI K (cq (.bool (decide c)) true) (bU .sub (BT.mk false false false none false) true v31 (bv (b:Nat))) λyz =>
  aI K (cq (.bool (decide c)) true) (eI false (some (e,1)) v30 none (some yz)) λzp=>aI K (cq (.bool (decide c)) true) (aW.enter 140 [zp,(co cc)]) λHK=>(fP (.bool (decide c)) HK ci).wp K U K' Kp:=by
 by_cases hc:c
 . have hi:=hi hc;simp only[hc,cC,aF,eG];refine fD (fD ?_);rw[jA,il];refine lS ⟨aX d6 d6,?_⟩;rw[ao,show (ks.length:Int)-b=((ks.length-b:Nat):Int) by omega];rcases hv with ⟨h0,_,_⟩|⟨cp,rfl⟩
   . omega
   . rw[zl,kj,gp];refine lS ⟨d6,?_⟩;rw[ao];have ra:dz (.vec (((ks.length-b:Nat):Int).toNat-(0:Int).toNat) (xg cp (some (bv ((ks.length-b:Nat):Int)))) (((iW ks).take (((ks.length-b:Nat):Int).toNat*1)).drop ((0:Int).toNat*1))) (ks.take (ks.length-b)).length (iW (ks.take (ks.length-b))):=by
      refine .inr ⟨xg cp (some (bv ((ks.length-b:Nat):Int))),?_⟩;rw[ez];simp[iW,List.map_take]
     refine xD (QV ra (by simp;omega) cc) ?_;simp only[av,if_true,ad];simpa [hc] using hk
 . simp only[hc,cZ,aF,show (false==true)=false from rfl,aw,bB,av,bW,if_false,ad];simpa [hc] using hk
end
def tA{c:ku}(hp:c.is=p){lo hi n:Nat}{ks:List Int}(h:n=ks.length):dB ks [⟨c,lo,hi⟩]=(decide (lo<=n/\n<=hi)&&ks.all p):=by rw[Aj,hp,h]
def getD_take:∀(l:List Int)(i:Nat),i<l.length->l.drop i=l.getD i 0::l.drop (i+1):=λl i h=>by
 rw[gI h,pq,mP h];rfl
def aaK{ks:List Int}(hl:ks.length<=900):dB ks [⟨.kind 5,0,900⟩,⟨.base,1,1⟩,⟨.term,1,1⟩]=(((decide (2<=ks.length)&&(ks.take (ks.length-2)).all λk=>decide (k=5))&&jH (ks.getD (ks.length-2) 0))&&cP (ks.getD (ks.length-1) 0)):=by
 have:=vE ⟨.kind 5,0,900⟩ [.base,.term] ks (by simp;omega);simp only[fh,mq,jm,nQ,cK,Nat.reduceAdd]at this;rw[this]
 by_cases h:2<=ks.length
 . rw[getD_take ks (ks.length-2) d6,show ks.length-2+1=ks.length-1 by omega,getD_take ks (ks.length-1) d6,List.drop_of_length_le (show ks.length<=ks.length-1+1 by omega)];have e1:=kD .base [.term] (ks.getD (ks.length-2) 0) [ks.getD (ks.length-1) 0] rfl;have e2:=kD .term [] (ks.getD (ks.length-1) 0) [] rfl;simp only[fh,mq]at e1 e2;rw[e1,e2];simp only[dB,List.isEmpty_nil,Bool.and_true,Bool.and_assoc,ku.is];rfl
 . simp[h]
def age{ks:List Int}(hl:ks.length<=900):dB ks [⟨.kind 37,1,900⟩,⟨.term,1,1⟩]=((decide (2<=ks.length)&&(ks.take (ks.length-1)).all λk=>decide (k=37))&&cP (ks.getD (ks.length-1) 0)):=by
 have:=vE ⟨.kind 37,1,900⟩ [.term] ks (by simp;omega);simp only[fh,mq,jm,nQ,cK,Nat.reduceAdd]at this;rw[this]
 by_cases h:2<=ks.length
 . rw[getD_take ks (ks.length-1) d6,List.drop_of_length_le (show ks.length<=ks.length-1+1 by omega)];have e2:=kD .term [] (ks.getD (ks.length-1) 0) [] rfl;simp only[fh,mq]at e2;rw[e2];simp only[dB,List.isEmpty_nil,Bool.and_true,Bool.and_assoc,ku.is];rfl
 . simp[h]
def aeA{ks:List Int}(hl:ks.length<=900):dB ks [⟨.term,1,1⟩,⟨.kind 37,1,1⟩,⟨.term,1,1⟩]=(((decide (ks.length=3)&&cP (ks.getD 0 0))&&decide (ks.getD 1 0=37))&&cP (ks.getD 2 0)):=by
 by_cases h:ks.length=3
 . match ks,h with
   | [a,b,c],_ =>
     have e1:=kD .term [.kind 37,.term] a [b,c] rfl;have e2:=kD (.kind 37) [.term] b [c] rfl;have e3:=kD .term [] c [] rfl;simp only[fh,mq]at e1 e2 e3;rw[e1,e2,e3];simp[dB,ku.is,Bool.and_assoc]
 . have:=oo [.term,.kind 37,.term] ks;simp only[fh,mq,jm,nQ,cK,Nat.reduceAdd]at this;cases hf:dB ks [⟨.term,1,1⟩,⟨.kind 37,1,1⟩,⟨.term,1,1⟩] with
   | true=>exact absurd (this hf) h
   | false=>simp[h]
section
variable {U:St}{bt:BT}{l:Bool}{k:IntKind}{a b:Int}{K':am}{Kp:am}
def ib(h:K' (.bool (decide (a=b))) U):(bU .eql bt l (.int k a) (.int k b)).wp K U K' Kp:=by rw[aN];exact h
def HQ(h:K' (.bool (!decide (a=b))) U):(bU .neq bt l (.int k a) (.int k b)).wp K U K' Kp:=by rw[ck];exact h
def Ba(h:K' (.bool (decide (b<=a))) U):(bU .geq bt l (.int k a) (.int k b)).wp K U K' Kp:=by rw[eX];exact h
def yF(h:K' (.bool (decide (b<a))) U):(bU .gtr bt l (.int k a) (.int k b)).wp K U K' Kp:=by rw[dq];exact h
def cO{A B:Prop}(h:A):cX ce A B:=by rw[aL];exact h
def cz{A B:Prop}(h:B):cX ci A B:=by rw[aG];exact h
def df{p:Prop}[Decidable p]{A B:Prop}(h:p->A)(h':¬ p->B):cX (.bool (decide p)) A B:=by rw[bp];exact⟨h,h'⟩
end
def RR{v:AV}{ks:List Int}(hv:dz v ks.length (iW ks))(hl:ks.length<=900)(k:Int):Pure K 72 [co k,v] (.bool (tU k ks)):=by
 intro U R hR;refine acr ?_;dsimp only[adU,Ea,eh,lM,cU,ql,ae,ak,pZ,wM,aQ,ah,ar,cJ,bX];have hlen:dK (some false) v=.val (bv ks.length):=hv.len;have Cq:ks.length<=100000:=by omega
 rw[hlen,ad];refine ib ?_;have out:∀{b:Bool},tU k ks=b->aq R (.bool b) U:=λh=>by rw[h]at hR;exact aq.mk hR
 refine df (λh1=>?_) λh1=>?_
 . refine (Lo hv Cq).go (out ?_);rw[h1];show dB ks [⟨.item,0,900⟩]=_;rw[tA (p:=jI) rfl rfl,decide_eq_true d6,Bool.true_and]
 intro j hj;have K4:k=2\/k=5->j v (bv ks.length) (co k) ce U:=λhk=>by
  refine hj _ _ _ _ _ ?_;refine cO ?_;refine ib ?_;refine FO hv zI (λh=>by rw[dU]at h;omega) (out ?_);have hf:bS k=some ⟨true,false,false,[⟨.type,1,1⟩]⟩:=by rcases hk with rfl|rfl<;>rfl
  unfold tU;rw[hf];show dB ks [⟨.type,1,1⟩]=_;rw[tA (p:=fJ) rfl rfl]
  by_cases hn:ks.length=1
  . match ks,hn with
    | [a],_=>simp
  . rw[decide_eq_false d6,decide_eq_false d6,Bool.false_and,Bool.false_and]
 have B3:k≠2->k≠5->j v (bv ks.length) (co k) ci U:=λwR Mn=>by
  refine hj _ _ _ _ _ ?_;refine cz ?_;intro j1 yS;have K5:k=3\/k=4->j1 v (bv ks.length) (co k) ce U:=λhk=>by
   refine yS _ _ _ _ _ ?_;refine cO ?_;refine Ba ?_;refine JV (b:=2) hv Cq d6 (λh=>by omega) ?_;refine FN (b:=2) hv Cq vI d6 (λh=>by rw[cS,dU]at h;omega) ?_;refine FN (b:=1) hv Cq qt d6 (λh=>by simp only[cS,dU]at h;omega) (out ?_);have hf:bS k=some ⟨true,false,false,[⟨.kind 5,0,900⟩,⟨.base,1,1⟩,⟨.term,1,1⟩]⟩:=by rcases hk with rfl|rfl<;>rfl
   unfold tU;rw[hf];show dB ks [⟨.kind 5,0,900⟩,⟨.base,1,1⟩,⟨.term,1,1⟩]=_;rw[aaK hl];have e2:decide (((2:Nat):Int)<=(ks.length:Int))=decide (2<=ks.length):=by rw[decide_eq_decide];omega
   simp only[<-e2];rfl
  have ado:k≠3->k≠4->j1 v (bv ks.length) (co k) ci U:=λJz hn4=>by
   refine yS _ _ _ _ _ ?_;refine cz ?_;refine ib (df (λh=>?_) λhn8=>?_)
   . refine Ba ?_;refine uZ (Ln hv Cq) (out ?_);rw[h];show dB ks [⟨.base,2,900⟩]=_;rw[tA (p:=jH) rfl rfl];congr 1;rw[decide_eq_decide];omega
   refine ib (df (λh=>?_) λhn9=>?_)
   . refine Ba ?_;refine uZ (tR hv Cq) (out ?_);rw[h];show dB ks [⟨.term,2,900⟩]=_;rw[tA (p:=cP) rfl rfl];congr 1;rw[decide_eq_decide];omega
   refine ib (df (λh=>?_) λagK=>?_)
   . refine ib ?_;refine uZ (tR hv Cq) (out ?_);rw[h];show dB ks [⟨.term,3,3⟩]=_;rw[tA (p:=cP) rfl rfl];congr 1;rw[decide_eq_decide];omega
   intro j2 p7;have aiz:bS k=some ⟨nV k,false,false,[⟨.term,2,2⟩]⟩->j2 v (bv ks.length) (co k) ce U:=λhf=>by
    refine p7 _ _ _ _ _ ?_;refine cO ?_;refine ib ?_;refine uZ (tR hv Cq) (out ?_);unfold tU;rw[hf];show dB ks [⟨.term,2,2⟩]=_;rw[tA (p:=cP) rfl rfl];congr 1;rw[decide_eq_decide];omega
   have aiM:k≠11->k≠13->k≠15->k≠17->k≠18->¬ (20<=k/\k<=24)->j2 v (bv ks.length) (co k) ci U:=λm11 m13 m15 m17 m18 m20=>by
    refine p7 _ _ _ _ _ ?_;refine cz ?_;intro j3 Jv;have vK:∀f:iQ,bS k=some f->f.kids=[⟨.term,1,1⟩]->j3 v (bv ks.length) (co k) ce U:=λf hf hfk=>by
     refine Jv _ _ _ _ _ ?_;refine cO ?_;refine ib ?_;refine uZ (tR hv Cq) (out ?_);unfold tU;rw[hf];show dB ks f.kids=_;rw[hfk,tA (p:=cP) rfl rfl];congr 1;rw[decide_eq_decide];omega
    have aiN:k≠12->k≠14->k≠16->k≠19->k≠25->j3 v (bv ks.length) (co k) ci U:=λm12 m14 m16 m19 m25=>by
     refine Jv _ _ _ _ _ ?_;refine cz ?_;refine ib (df (λh=>?_) λm34=>?_)
     . refine Ba ?_;refine uZ (Oe hv Cq) (out ?_);rw[h];show dB ks [⟨.arg,1,900⟩]=_;rw[tA (p:=lh) rfl rfl];congr 1;rw[decide_eq_decide];omega
     refine ib (df (λh=>?_) λm35=>?_)
     . refine Ba ?_;refine JV (b:=1) hv Cq d6 (λh=>by omega) ?_;refine FN (b:=1) hv Cq qt d6 (λh=>by simp only[cS,dU]at h;omega) (out ?_);rw[h];show dB ks [⟨.kind 37,1,900⟩,⟨.term,1,1⟩]=_;rw[age hl];have e2:decide (((2:Nat):Int)<=(ks.length:Int))=decide (2<=ks.length):=by rw[decide_eq_decide];omega
       simp only[<-e2];rfl
     refine ib (df (λh=>?_) λm36=>?_)
     . refine ib ?_;refine FO hv qt (λh=>by rw[dU]at h;omega) ?_;refine UK hv (λh=>by simp only[cS,dU]at h;omega) ?_;refine FO hv qt (λh=>by simp only[cS,dU]at h;omega) (out ?_);rw[h];show dB ks [⟨.term,1,1⟩,⟨.kind 37,1,1⟩,⟨.term,1,1⟩]=_;rw[aeA hl];have e2:decide ((ks.length:Int)=3)=decide (ks.length=3):=by rw[decide_eq_decide];omega
       simp only[e2];rfl
     intro j4 hj4;have aiA:bS k=some ⟨(nV k),vG k,false,[]⟩->j4 (bv ks.length) ce U:=λhf=>by
      refine hj4 _ _ _ ?_;refine cO ?_;refine ib ?_;refine out ?_;unfold tU;rw[hf];show dB ks []=_;rw[dB,oN,List.isEmpty_iff,dU];constructor
      . rintro rfl;rfl
      . intro h;exact ti.1 d6
     have last:bS k=none->j4 (bv ks.length) ci U:=λhf=>by
      refine hj4 _ _ _ ?_;refine cz ?_;refine out ?_;unfold tU;rw[hf]
     have UJ:∀b,b=true->bS k=some ⟨(nV k),vG k,false,[]⟩->j4 (bv ks.length) (.bool b) U:=λb hb h=>by subst hb;exact aiA h
     have aiy:∀b,b=false->bS k=none->j4 (bv ks.length) (.bool b) U:=λb hb h=>by subst hb;exact last h
     iterate 10
      refine ib (df (λh=>UJ _ (by simpa using h) (by rw[h];rfl)) λ_=>?_)
     refine ib ?_
     by_cases h:k=37
     . exact UJ _ (by simpa using h) (by rw[h];rfl)
     . exact aiy _ (by simpa using h) (sC d6)
    simp only[aN,ad,bp];refine⟨λh=>?_,λm12=>⟨λh=>?_,λm14=>⟨λh=>?_,λm16=>⟨λh=>?_,λm19=>?_⟩⟩⟩⟩
    . simp only[h,cC];rw[h]at vK;exact vK _ rfl rfl
    . simp only[h,cC];rw[h]at vK;exact vK _ rfl rfl
    . simp only[h,cC];rw[h]at vK;exact vK _ rfl rfl
    . simp only[h,cC];rw[h]at vK;exact vK _ rfl rfl
    . by_cases h:k=25
      . simp only[h,cC];rw[h]at vK;exact vK _ rfl rfl
      . simp only[h,cZ];exact aiN m12 m14 m16 m19 h
   have sJ:∀b,b=true->bS k=some ⟨nV k,false,false,[⟨.term,2,2⟩]⟩->j2 v (bv ks.length) (co k) (.bool b) U:=λb hb h=>by subst hb;exact aiz h
   refine ib (df (λh=>sJ _ (by simpa using h) (by rw[h];rfl)) λm11=>?_);refine ib (df (λh=>sJ _ (by simpa using h) (by rw[h];rfl)) λm13=>?_);refine ib (df (λh=>sJ _ (by simpa using h) (by rw[h];rfl)) λm15=>?_);refine ib (df (λh=>sJ _ (by simpa using h) (by rw[h];rfl)) λm17=>?_);refine ib (df (λh=>sJ _ (by simpa using h) (by rw[h];rfl)) λm18=>?_);refine ib (df (λh=>sJ _ (by simpa using h) (by rw[h];rfl)) λm20=>?_);refine ib (df (λh=>sJ _ (by simpa using h) (by rw[h];rfl)) λm21=>?_);refine ib (df (λh=>sJ _ (by simpa using h) (by rw[h];rfl)) λm22=>?_);refine ib (df (λh=>sJ _ (by simpa using h) (by rw[h];rfl)) λm23=>?_);refine ib ?_
   by_cases h:k=24
   . exact sJ _ (by simpa using h) (by rw[h];rfl)
   . simp only[h,cZ];exact aiM m11 m13 m15 m17 m18 d6
  refine ib (df (λh=>?_) λm3=>?_)
  . simp only[h,cC];rw[h]at K5;exact K5 (.inl rfl)
  . refine ib ?_
    by_cases h:k=4
    . simp only[h,cC];rw[h]at K5;exact K5 (.inr rfl)
    . simp only[h,cZ];exact ado m3 h
 refine ib (df (λh=>?_) λm2=>?_)
 . simp only[h,cC];rw[h]at K4;exact K4 (.inl rfl)
 . refine ib ?_
   by_cases h:k=5
   . simp only[h,cC];rw[h]at K4;exact K4 (.inr rfl)
   . simp only[h,cZ];exact B3 m2 h
def qo(x:Nd):Bool:=(nV x.kind==decide (x.text≠[]))&&(!decide (x.text≠[])||gr x.text)&&(if vG x.kind then ek x.n else decide (x.n=0))&&(if x.kind=12 then ek x.m else decide (x.m=0))
def KK:∀n:Fin 38,(match bS ((n.val:Nat):Int) with|some f=>f.text==nV (n.val:Nat)&&f.n==vG (n.val:Nat)&&f.m==decide (((n.val:Nat):Int)=12)|none=>true)=true:=by decide +kernel
def LS{k:Int}{f:iQ}(h:bS k=some f):f.text=nV k/\f.n=vG k/\f.m=decide (k=12):=by
 have hk:1<=k/\k<=37:=by
  by_cases h1:k<1\/37<k
  . rw[sC h1]at h;cases h
  . omega
 obtain⟨n,rfl⟩:∃n:Nat,k=n:=⟨k.toNat,d6⟩;have:=KK ⟨n,d6⟩;simp only[h,cS,beq_iff_eq]at this;exact⟨this.1.1,this.1.2,this.2⟩
def Ji{x:Nd}{f:iQ}(h:bS x.kind=some f):qo x=fx x f:=by
 obtain⟨h1,h2,h3⟩:=LS h;have z:ek 0:=by simp[ek]
 unfold qo fx;rw[<-h1,<-h2];have hm:(if x.kind=12 then ek x.m else decide (x.m=0))=(if f.m=true then ek x.m else decide (x.m=0)):=by
  rw[h3];by_cases h:x.kind=12<;>simp[h]
 rw[hm];have e0:(x.text != [])=decide (x.text≠[]):=by
  by_cases h:x.text=[]<;>simp[h]
 rw[e0]
 by_cases ht:x.text=[]
 . have:gr []=false:=by decide
   cases f.text<;>cases f.n<;>cases f.m<;>by_cases hn:x.n=0<;>by_cases Ud:x.m=0<;>simp[ht,hn,Ud,z,this]
 . cases f.text<;>cases f.n<;>cases f.m<;>by_cases hn:x.n=0<;>by_cases Ud:x.m=0<;>simp[ht,hn,Ud,z]
def jV{f:FuncId}{x:AV}{kq:AV->Prop}(h:Pure K f args x)(hk:kq x):bC K (aW.enter f args) kq:=⟨x,h,hk⟩
def j9{b o k:Nat}{kq:AV->Prop}(h:kq (.box b (o+k))):bC K (bu (some k) (.box b o)) kq:=h
def agp{b o k:Nat}{kq:AV->Prop}(h:kq (.box b (o+k))):aI K ce (bu (some k) (.box b o)) kq:=h
def LW{U:St}{b o:Nat}{l:List AV}{x:AV}{kq:AV->Prop}(hb:U.box b=some L)(hd:L.drop o=x::l)(h:kq x):aI K ce (bj (some (false,1)) (.box b o) U) kq:=by rw[ld hb,hd];exact h
def eQ{U:St}{b o:Nat}{l:List AV}{x:AV}{kq:AV->Prop}(hb:U.box b=some L)(hd:L.drop o=x::l)(h:kq x):bC K (bj (some (false,1)) (.box b o) U) kq:=by rw[ld hb,hd];exact h
def dN{U τ:St}{b o:Nat}{l:List AV}{x:AV}{K':am}{Kp:am}(hb:U.box b=some L)(hd:L.drop o=x::l)(h:K' x τ):(bj (some (false,1)) (.box b o) U).wp K τ K' Kp:=by rw[ld hb,hd];exact h
def Oy(x:Nd)(hs:x.text.length<=100000):Pure K 71 [.agg (dv x)] (.bool (qo x)):=by
 refine Pure.of rfl rfl (λU=>rfl) λR hR=>?_;refine acq ?_;dsimp only[adT,fR,eh,lM,zgt,lN,jr,wW,wX,wY,fe,ae,bg,ak,ah,ar,dI,bX,gO,kT,uE,qm,kN];rw[fg rfl];intro b hb;have m:((cj ⟨.e,0⟩).new b (.box (al (.agg (dv x))))).box b=some (dv x):=aH;generalize (cj _).new b _=U at *;clear hb;have out:∀{b:Bool},qo x=b->aq R (.bool b) U:=λh=>by rw[h]at hR;exact aq.mk (hR _)
 refine j9 (eQ m rfl (jV (TR _) ?_));refine j9 (eQ m rfl ?_);rw[nr,ao,CN,ao];have hw:(!decide (x.text=w_))=decide (x.text≠[]):=by
  by_cases h:x.text=[]<;>simp[h,w_]
 rw[hw];have rest:(nV x.kind != decide (x.text≠[]))=false->(decide (x.text≠[])&&!gr x.text)=false ->
  (bu (some 0) (.box b 0)).wp K U (λv21 U =>
  (bj (some (false,1)) v21 U).wp K U (λtO U =>
  ag K 136 [tO] U (bD (λHJ U =>
  aI K (cq HJ true) (bu (some 2) (.box b 0)) (λv25 =>
  aI K (cq HJ true) (bj (some (false,1)) v25 U) (λZY =>
  aI K (cq HJ true) (aW.enter 137 [ZY]) (λA8 =>
  aI K (cq HJ true) (yx .not A8) (λv28 =>
  (fP HJ v28 ci).wp K U (λsd U =>
  aI K (cq sd false) (bu (some 0) (.box b 0)) (λv31 =>
  aI K (cq sd false) (bj (some (false,1)) v31 U) (λyz =>
  aI K (cq sd false) (aW.enter 136 [yz]) (λzp =>
  aI K (cq sd false) (yx .not zp) (λHK =>
  aI K (cq sd false) (aW.val HK) (λN5 =>
  aI K (cq N5 true) (bu (some 2) (.box b 0)) (λFw =>
  aI K (cq N5 true) (bj (some (false,1)) Fw U) (λv37 =>
  aI K (cq N5 true) (bU .neq (BT.mk false false false none false) true v37 (bv 0)) (λKA =>
  aI K (cq sd false) (fP N5 KA ci) (λZZ =>
  (fP sd ce ZZ).wp K U (λv40 U =>
  cX v40 (
   aq R ci U) (
   (bu (some 0) (.box b 0)).wp K U (λZ0 U =>
   (bj (some (false,1)) Z0 U).wp K U (λHL U =>
   (bU .eql (BT.mk false false false none false) true HL (co 12)).wp K U (λzq U =>
   aI K (cq zq true) (bu (some 3) (.box b 0)) (λZ2 =>
   aI K (cq zq true) (bj (some (false,1)) Z2 U) (λv46 =>
   aI K (cq zq true) (aW.enter 137 [v46]) (λKB =>
   (fP zq KB ci).wp K U (λsM U =>
   aI K (cq sM false) (bu (some 0) (.box b 0)) (λux =>
   aI K (cq sM false) (bj (some (false,1)) ux U) (λv51 =>
   aI K (cq sM false) (bU .neq (BT.mk false false false none false) true v51 (co 12)) (λCB =>
   aI K (cq sM false) (aW.val CB) (λv53 =>
   aI K (cq v53 true) (bu (some 3) (.box b 0)) (λzr =>
   aI K (cq v53 true) (bj (some (false,1)) zr U) (λA9 =>
   aI K (cq v53 true) (bU .eql (BT.mk false false false none false) true A9 (bv 0)) (λHM =>
   aI K (cq sM false) (fP v53 HM ci) (λHN =>
   (fP sM ce HN).wp K U (λN7 U =>
   aq R N7 U) (aD R)))))))))) (aD R))))) (aD R)) (aD R)) (aD R))) (aD R))))))))))) (aD R)))))) (aD R))) (aD R)) (aD R):=by
  intro h1 h2;have xV:qo x=((if vG x.kind then ek x.n else decide (x.n=0))&&(if x.kind=12 then ek x.m else decide (x.m=0))):=by
   unfold qo;cases ha:nV x.kind<;>cases hb:decide (x.text≠[])<;>cases hc:gr x.text<;>simp_all
  rw[xV]at out;clear xV hR hw;simp only[aP,ad,cK];refine dN m rfl ((C5 _).go ?_);have second:(if vG x.kind then ek x.n else decide (x.n=0))=true->(bj (some (false,1)) (.box b 0) U).wp K U (λHL U =>
   (bU .eql (BT.mk false false false none false) true HL (co 12)).wp K U (λzq U =>
   aI K (cq zq true) (.val (.box b 3)) (λZ2 =>
   aI K (cq zq true) (bj (some (false,1)) Z2 U) (λv46 =>
   aI K (cq zq true) (aW.enter 137 [v46]) (λKB =>
   (fP zq KB ci).wp K U (λsM U =>
   aI K (cq sM false) (.val (.box b 0)) (λux =>
   aI K (cq sM false) (bj (some (false,1)) ux U) (λv51 =>
   aI K (cq sM false) (bU .neq (BT.mk false false false none false) true v51 (co 12)) (λCB =>
   aI K (cq sM false) (aW.val CB) (λv53 =>
   aI K (cq v53 true) (.val (.box b 3)) (λzr =>
   aI K (cq v53 true) (bj (some (false,1)) zr U) (λA9 =>
   aI K (cq v53 true) (bU .eql (BT.mk false false false none false) true A9 (bv 0)) (λHM =>
   aI K (cq sM false) (fP v53 HM ci) (λHN =>
   (fP sM ce HN).wp K U (λN7 U =>
   aq R N7 U) (aD R)))))))))) (aD R))))) (aD R)) (aD R):=by
   intro h3;rw[h3,Bool.true_and]at out;refine dN m rfl (ib ?_)
   by_cases hk:x.kind=12
   . simp only[hk,cC,aF,eG];refine fD (LW m rfl (xD (G9 _) ?_));simp only[av,if_true,ad];rw[if_pos hk]at out;cases hm:ek x.m with
     | true =>
       simp only[aF,show (true==false)=false from rfl,aw,bB,jd,av,if_true,ad];exact out hm
     | false =>
       simp only[aF,eG];refine fD (LW m rfl ?_);simp only[dv,List.drop,ck,hk,cC,cL,aw,bO,ao,aF,show (false==true)=false from rfl,bB,av,bW,if_false,ad];exact out hm
   . rw[if_neg hk]at out;simp only[hk,cZ,aF,show (false==true)=false from rfl,aw,bB,av,bW,if_false,ad,eG,bO,ao];refine eQ m rfl ?_;simp only[ck,hk,cZ,dS,ao,aF,eG,aw,bO];refine eQ m rfl ?_;simp only[aN,ao,av,if_true,bW,if_false,ad];exact out rfl
  cases hn:vG x.kind with
  | true =>
    rw[hn]at second out;simp only[if_true]at second out;simp only[aF,eG];refine fD (LW m rfl (xD (G9 _) ?_));simp only[db,aw,bO,ao,av,if_true,ad];cases hv:ek x.n with
    | false =>
      simp only[dS,aF,show (true==false)=false from rfl,aw,bB,jd,av,if_true,ad];refine cO (out ?_);rw[hv];rfl
    | true =>
      simp only[cL,aF,eG];simp only[aw,bO,ao];refine eQ m rfl (jV (C5 _) ?_);rw[hn];simp only[db,cL,ao,aF,show (false==true)=false from rfl,aw,bB,av,bW,if_false,ad];exact cz (second hv)
  | false =>
    rw[hn]at second out;simp only[bW,if_false]at second out;simp only[aF,show (false==true)=false from rfl,aw,bB,av,bW,if_false,ad,eG,bO,ao];refine eQ m rfl (jV (C5 _) ?_);rw[hn];simp only[db,dS,ao,aF,eG,aw,bO];refine eQ m rfl ?_;simp only[ck,ao,av,if_true,bW,if_false,ad]
    by_cases h0:x.n=0
    . simp only[h0,cC,cL];exact cz (second (by simp[h0]))
    . simp only[h0,cZ,dS];exact cO (out (by simp[h0]))
 have hff:(nV x.kind != decide (x.text≠[]))\/(decide (x.text≠[])&&!gr x.text)->qo x=false:=λh=>by
  unfold qo;cases ha:nV x.kind<;>cases hb:decide (x.text≠[])<;>cases hc:gr x.text<;>simp_all
 cases h1:(nV x.kind != decide (x.text≠[])) with
 | true =>
   simp only[aF,show (true==false)=false from rfl,aw,bB,jd,av,if_true,ao];exact cO (out (hff (.inl h1)))
 | false =>
   simp only[aF,eG,aP,aw,bO,ao,cK];refine eQ m rfl ?_;rw[nr,ao,hw];cases h0:decide (x.text≠[]) with
   | false =>
     simp only[aF,show (false==true)=false from rfl,aw,bB,ao,av,bW,if_false];exact cz (rest h1 (by rw[h0];rfl))
   | true =>
     simp only[aF,eG,aw,bO,ao];refine eQ m rfl (jV (OF _ hs) ?_);simp only[db,ao,av,if_true,bW,if_false];cases hn:gr x.text with
     | true=>exact cz (rest h1 (by rw[hn];simp))
     | false=>exact cO (out (hff (.inr (by rw[h0,hn];rfl))))
def rL(x:Nd)(ks:List Int):Bool:=qo x&&tU x.kind ks
def M5{k:Int}{t:aT}{n m a:Int}{ks:List Tre}{x:Nd}(h1:x.kind=k)(h2:x.text=t)(h3:x.n=n)(h4:x.m=m):(Tre.mk k t n m a ks).ok=(rL x (ks.map Tre.kind)&&Tre.wk ks):=by
 rw[Tre.ok];congr 1;unfold rL tU;rw[h1];cases hf:bS k with
 | none=>simp
 | some f =>
   rw[Ji (f:=f) (by rw[h1];exact hf)];congr 1;unfold fx;simp only[h2,h3,h4]
def oG{l:List Nd}:∀{ts:List Tre}{p q ir:Nat},sf l p ts->(bH p ts)[q]?=some ir->∃u,ts[q]?=some u/\dP l ir u
 | [],p,q,ir,h,hk=>by simp[bH]at hk
 | t::ts,p,0,ir,h,hk=>by simp[bH]at hk;subst hk;exact⟨t,rfl,h.head⟩
 | t::ts,p,q+1,ir,h,hk=>by
   simp only[bH,List.getElem?_cons_succ]at hk;obtain⟨u,h1,h2⟩:=oG h.tail hk;exact⟨u,by simpa using h1,h2⟩
def Hn{l:List Nd}:∀(N:Nat)(ts:List Tre)(p:Nat),(Tre.cH ts).length<=N->sf l p ts->(∀j s x,p<=j->j<p+(Tre.cH ts).length->dP l j s->l[j]?=some x->rL x (s.kids.map Tre.kind))->Tre.wk ts
 | _,[],_,_,_,_=>by simp
 | 0,t::ts,_,hN,_,_=>by have:=t.eC;simp only[Tre.dT,dx]at hN;omega
 | N+1,.mk k tx n m a ks::ts,p,hN,h,cg=>by
   have p6:(Tre.mk k tx n m a ks).flat.length=(Tre.cH ks).length+1:=lQ (.mk k tx n m a ks);simp only[Tre.dT,dx]at hN cg;rw[Tre.u9];obtain⟨x,hx,h1,h2,h3,h4,h5,h6⟩:=h.head.oS;rw[M5 (k:=k) (t:=tx) (n:=n) (m:=m) (x:=x) h1 h3 h4 h5];have e1:rL x (ks.map Tre.kind):=cg p _ x (da _) d6 h.head hx;have e2:=Hn N ks (p+1) d6 h.head.kids λj s y yS p7=>cg j s y d6 d6;have e3:=Hn N ts (p+(Tre.flat (.mk k tx n m a ks)).length) d6 h.tail λj s y yS p7=>cg j s y d6 d6;rw[e1,e2,e3];rfl
def HF{t:Tre}(h:t.ok){i:Nat}{s:Tre}(hs:dP t.flat i s):s.ok:=by
 have hi:i<t.flat.length:=by have:=hs.le;have:=s.eC;omega
 obtain⟨s',h1,h2⟩:=AZ (l:=t.flat) t.flat.length [t] 0 d8 ⟨[],d8⟩ i d6 (by simpa using hi);rw[hs.inj h1];exact h2 (by simp[h])
def FV{s:Tre}(h:s.ok){l:List Nd}{i:Nat}{x:Nd}(hs:dP l i s)(hx:l[i]?=some x):rL x (s.kids.map Tre.kind):=by
 obtain⟨y,hy,h1,h2,h3,h4,h5,h6⟩:=hs.oS;rw[hx]at hy;cases hy;cases s with
 | mk k tx n m a ks =>
   rw[M5 (k:=k) (t:=tx) (n:=n) (m:=m) (x:=x) h1 h3 h4 h5,cS]at h;exact h.1
def Px:∀(ss:List nq)(ks:List Int),dB ks ss->∀k∈ks,∃s∈ss,s.c.is k
 | [],ks,h,k,hk=>by rw[dB,List.isEmpty_iff]at h;subst h;simp at hk
 | s::ss,ks,h,k,hk=>by
   rw[dB]at h;split at h
   . cases h
   . generalize hq:((ks.take (min (ks.length-(ss.map (·.least)).sum) s.ph)).takeWhile s.c.is)=q at *;have td:q <+: ks:=by
      rw[<-hq];exact (vb _).trans (List.take_prefix _ _)
     have ju:ks=q++ks.drop q.length:=by
      obtain⟨r,hr⟩:=td;rw[<-hr];simp
     rw[ju,gV]at hk;rcases hk with hk|hk
     . refine⟨s,d8,?_⟩;have:∀l:List Int,k∈l.takeWhile s.c.is->s.c.is k:=λl=>by
        induction l with
        | nil=>simp
        | cons a l ih =>
          rw[om];split
          . rename_i ha;intro h;rcases dy.1 h with rfl|h
            . exact ha
            . exact ih h
          . simp
       rw[<-hq]at hk;exact this _ hk
     . obtain⟨s',h1,h2⟩:=Px ss _ h k hk;exact⟨s',by simp[h1],h2⟩
def ae0:∀n:Fin 38,(match bS ((n.val:Nat):Int) with|some f=>f.kids.all λs=>!s.c.is 1|none=>true)=true:=by decide +kernel
def ag2{k:Int}{ks:List Int}(h:tU k ks):(1:Int)∉ks:=by
 intro hm;unfold tU at h;split at h
 . rename_i f hf;obtain⟨s,h1,h2⟩:=Px _ _ h 1 hm;have hk:1<=k/\k<=37:=by
    by_cases h1:k<1\/37<k
    . rw[sC h1]at hf;cases hf
    . omega
   obtain⟨n,rfl⟩:∃n:Nat,k=n:=⟨k.toNat,d6⟩;have:=ae0 ⟨n,d6⟩;simp only[hf,fQ]at this;have:=this s h1;rw[h2]at this;cases this
 . cases h
def afJ{t:Tre}(h:t.ok){i:Nat}{s:Tre}(hs:dP t.flat i s)(hi:0<i):s.kind≠1:=by
 have aA:i<t.flat.length:=by have:=hs.le;have:=s.eC;omega
 rcases (place t aA).2 with h0|⟨i',s',h1,h2,h3⟩
 . omega
 . obtain⟨q,hq,Mt⟩:=List.getElem_of_mem h3;obtain⟨u,Uj,JD⟩:=oG h2.kids (show (bH (i'+1) s'.kids)[q]?=some i by rw[<-Mt];simp);have:=hs.inj JD;subst this;have fj:=HF h h2;obtain⟨x,hx,hk,_⟩:=h2.oS;have hn:=FV fj h2 hx;unfold rL at hn;rw[cS]at hn;intro e;refine ag2 hn.2 ?_;rw[<-e];exact List.mem_map_of_mem (fT Uj)
def Tn{l:List Nd}(h9:¬ 900<l.length)(h:¬ Bh l):iU l=4:=by
 unfold iU;rw[if_neg h9,ZU (λh'=>h ((zk l).2 h'))]
def yE{U:St}{bt:BT}{l:Bool}{k:IntKind}{a b:Int}{A B:am}{Kp:am}(h:a<b->A ce U)(h':¬ a<b->B ci U):(bU .lss bt l (.int k a) (.int k b)).wp K U (λv U=>cX v (A v U) (B v U)) Kp:=by
 rw[aY,ad]
 by_cases hc:a<b
 . simp only[hc,cC];exact cO (h hc)
 . simp only[hc,cZ];exact cz (h' hc)
def aeD{U:St}{v:AV}{l:List Nd}{i:Nat}{x:Nd}{c:Int}{bt:BT}{lb:Bool}{K':am}{Kp:am}(h:jE U v l)(hx:l[i]?=some x)(hk:K' (.bool (cb&&decide (x.kind=c))) U) :
 aI K (cq (.bool cb) true) (aW.val v) λa=>aI K (cq (.bool cb) true) (aW.val (bv (i:Nat))) λb=>aI K (cq (.bool cb) true) (bJ (some (43,6)) none a b) λp=>aI K (cq (.bool cb) true) (bu (some 0) p) λq =>
  aI K (cq (.bool cb) true) (bj (some (false,1)) q U) λy=>aI K (cq (.bool cb) true) (bU .eql bt lb y (co c)) λz=>(fP (.bool cb) z ci).wp K U K' Kp:=by
 cases cb with
 | true =>
   simp only[aF,eG];refine fD (fD (aaO h hx (R6 x) ?_));rw[aN];refine fD ?_;simp only[av,if_true,ad];simpa using hk
 | false =>
   simp only[aF,show (false==true)=false from rfl,aw,bB,av,bW,if_false,ad];simpa using hk
def Po{U:St}{R:bi}{v:AV}{l:List Nd}(hv:jE U v l)(hl:l.length<=50000)(mT:∀x∈l,x.text.length<=100000)
 (h:∀aa,dt U aa->R (.ret (bv (iU l))) aa):ag K 31 [.agg [v]] U R:=by
 refine ab4 ?_;dsimp only[adz,fR,eh,se,cU,lN,CC,jr,wW,CD,wY,fe,di,ae,bg,ak,mR,fU,oR,aQ,ah,ar,ca,eN,dI,cJ,bX,ej,fW,aC];rw[fg rfl];intro b1 gz;have m1:(U.new b1 (.box (al (.agg [v])))).box b1=some [v]:=aH;have e1:=bK gz (x:=.box (al (.agg [v])));generalize U.new b1 (.box (al (.agg [v])))=aK at *;clear gz;simp only[aP,ad,cK];refine dN m1 rfl ?_;have Uk:=hv.tT e1;rw[Uk.len,ad];refine yF (df (λh9=>?_) λh9=>?_)
 . have:iU l=5:=by unfold iU;rw[if_pos d6]
   rw[this]at h;exact aq.mk (h _ e1)
 have h9:¬ 900<l.length:=by omega
 refine afy Uk d6 (λhS=>?_) λhS=>?_
 rotate_left
 . simp only[bh,db,ad,dS,aF,show (true==false)=false from rfl,aw,bB,av,if_true];refine cO ?_;rw[Tn h9 hS]at h;exact aq.mk (h _ e1)
 obtain⟨t,ht⟩:=(zk l).1 hS;subst ht;rw[yL t h9]at h;clear hS;have G4:=dP.whole t;obtain⟨x0,hx0,E6,_⟩:=G4.oS;have tc:=t.eC;simp only[bh,db,ad,cL,aF,eG,aw,bO,ao];refine Sm (i:=0) Uk hx0 (R6 x0) ?_;rw[ck,ao];simp only[av,bW,if_false,ad,E6]
 by_cases ox:t.kind=1
 rotate_left
 . simp only[ox,cZ,dS];refine cO ?_;have:uP t=4:=by unfold uP;rw[if_pos (.inl ox)]
   rw[this]at h;exact aq.mk (h _ e1)
 simp only[ox,cC,cL];refine cz ?_;have bad:t.ok=false->∀aa,dt U aa->aq R (bv 4) aa:=λho aa e=>by
  have:uP t=4:=by unfold uP;rw[if_pos (.inr ho)]
  rw[this]at h;exact aq.mk (h _ e)
 refine⟨λm v3 v4 aa=>∃i:Nat,m=t.flat.length-i/\v3=v/\v4=bv (i:Nat)/\i<=t.flat.length/\dt U aa/\∀j s x,j<i->dP t.flat j s->t.flat[j]?=some x->rL x (s.kids.map Tre.kind),⟨_,0,rfl,rfl,rfl,d6,e1,λj s x h=>by omega⟩,?_⟩;rintro m v3 v4 aV ⟨i,rfl,rfl,rfl,hi,e2,hN⟩;have Fc:=hv.tT e2;rw[Fc.len,ad];refine yE (λaA=>?_) λgL=>?_
 . have aA:i<t.flat.length:=by omega
   obtain⟨⟨s,_,hs,_⟩,_⟩:=place t aA;refine AK Fc hs d6 λbG zp g3=>?_;have kH:(bH (i+1) s.kids).length=s.kids.length:=iw _ _;have p8:dz zp (bH (i+1) s.kids).length (dW (bH (i+1) s.kids)):=by rw[kH];exact g3.sl
   have hle:=hs.le;have p6:=lQ s;have xZ:=Tre.pA s.kids;simp only[bh];have e3:=e2.trans g3.ex;refine⟨λm w3 w4 v5 v6 v7 aa=>∃q:Nat,m=s.kids.length-q/\w3=v3/\w4=bv (i:Nat)/\v6=zp/\v7=bv (q:Nat)/\q<=s.kids.length/\gi U aa v5 5 1 q (iW ((s.kids.take q).map Tre.kind)),
    ⟨_,0,rfl,rfl,rfl,rfl,rfl,d6,by simpa [iW] using gi.nil e3⟩,?_⟩
   clear e3;rintro m w3 w4 v5 v6 v7 cI ⟨q,rfl,rfl,rfl,rfl,rfl,hq,g⟩;have aim:dK (some false) v6=.val (bv (bH (i+1) s.kids).length):=p8.len;have MA:=hv.tT g.ex;rw[aim,ad,kH];refine yE (λhq2=>?_) λhq2=>?_
   . have hq2:q<s.kids.length:=by omega
     obtain⟨ir,xY⟩:∃ir,(bH (i+1) s.kids)[q]?=some ir:=⟨(bH (i+1) s.kids)[q]'(by omega),d8⟩;obtain⟨u,Uj,JD⟩:=oG hs.kids xY;obtain⟨y,hy,hyk,_⟩:=JD.oS;refine ahx p8 xY ?_;refine wK MA hy (R6 y) ?_;refine EI rfl rfl ?_;refine yC g (m:=1) (l2:=[co y.kind]) rfl rfl d6 d6 λdc v' g5 _=>?_;rw[cF];refine⟨aX d6 d6,s.kids.length-(q+1),d6,q+1,rfl,rfl,rfl,rfl,d8,hq2,?_⟩;have:(s.kids.take (q+1)).map Tre.kind=(s.kids.take q).map Tre.kind++[y.kind]:=by
      rw[nP,Uj,List.map_append,hyk];rfl
     rw[this];simpa [iW] using g5
   . have hq:q=s.kids.length:=by omega
     subst hq;rw[oO]at g;obtain⟨x,hx,p9,_⟩:=hs.oS;have ajV:dz v5 (s.kids.map Tre.kind).length (iW (s.kids.map Tre.kind)):=by rw[List.length_map];exact g.sl
     have Up:=mT x (fT hx);refine yF ?_;refine aeD MA hx ?_;cases zF:(decide ((0:Int)<((i:Nat):Int))&&decide (x.kind=1)) with
     | true =>
       simp only[aF,show (true==false)=false from rfl,aw,bB,av,if_true,ad];refine cO (bad ?_ _ g.ex);cases hto:t.ok with
       | false=>rfl
       | true=>simp only[cS,dU]at zF;exact absurd (p9▸zF.2) (afJ hto hs d6)
     | false =>
       simp only[aF,eG,aw,bO,ao];refine MA.nd hx (jV (Oy x Up) ?_);simp only[db,ao,av,bW,if_false,ad];have agZ:rL x (s.kids.map Tre.kind)=false->aq R (bv 4) cI:=λPK=>by
        refine bad ?_ _ g.ex;cases hto:t.ok with
        | false=>rfl
        | true =>
          have:=FV (HF hto hs) hs hx;rw[PK]at this;cases this
       cases hf:qo x with
       | false =>
         simp only[dS,aF,show (true==false)=false from rfl,aw,bB,av,if_true,ad];refine cO (agZ ?_);unfold rL;rw[hf];rfl
       | true =>
         simp only[cL,aF,eG,aw,bO,ao];refine Sm MA hx (R6 x) ?_;refine jV (RR ajV (by simp;omega) x.kind) ?_;simp only[db,ao,av,bW,if_false,ad];cases hfk:tU x.kind (s.kids.map Tre.kind) with
         | false=>exact cO (agZ (by unfold rL;rw[hf,hfk];rfl))
         | true =>
           refine cz ?_;rw[cF];refine⟨aX d6 d6,t.flat.length-(i+1),d6,i+1,rfl,rfl,d8,d6,g.ex,λj s' x' hj fj lJ=>?_⟩;rcases ik j i with h|h
           . exact hN j s' x' h fj lJ
           . have:j=i:=by omega
             subst this;rw[hx]at lJ;cases lJ;rw[fj.inj hs];unfold rL;rw[hf,hfk];rfl
 . have hi:i=t.flat.length:=by omega
   subst hi;have dG:t.ok:=by
    have:=Hn (l:=t.flat) _ [t] 0 (da _) ⟨[],d8⟩ (λj s x _ hj hs hx=>hN j s x (by simpa using hj) hs hx);simpa using this
   have Ih:uP t=if 60<t.deep\/24<t.kids.length then 5 else 0:=by unfold uP;rw[if_neg (by simp[ox,dG])]
   rw[Ih]at h;clear Ih bad hN;refine aas Fc d6 λb8 bG f8 m8 e3=>?_;have hDl:=zB 0 t;have e3':=e2.trans e3;simp only[bh];refine⟨λm w3 v8 v9 aa=>∃j:Nat,m=t.flat.length-j/\w3=v3/\v8=.ms b8 0 t.flat.length 1 3/\v9=bv (j:Nat)/\j<=t.flat.length/\aa=bG/\∀j' d,j'<j->(qU 0 t)[j']?=some d->¬ 60<d,⟨_,0,rfl,rfl,rfl,rfl,d6,rfl,λj' d h=>by omega⟩,?_⟩;rintro m w3 v8 v9 cI ⟨j,rfl,rfl,rfl,rfl,hj,rfl,hD⟩;have MA:=hv.tT e3';rw[MA.len,ad];refine yE (λaA=>?_) λgL=>?_
   . have aA:j<t.flat.length:=by omega
     obtain⟨d,hd⟩:∃d,(qU 0 t)[j]?=some d:=⟨(qU 0 t)[j]'(by omega),d8⟩;rw[xr];refine⟨⟨d6,d6,rfl⟩,?_⟩;obtain⟨r,hr⟩:=yf hd;rw[gJ m8,ez,Nat.mul_one,cK,hr,bI];refine yF (df (λh6=>?_) λh6=>?_)
     . have:60<t.deep:=(LC t).1 ⟨d,fT hd,d6⟩;rw[if_pos (.inl this)]at h;exact aq.mk (h _ e3')
     . rw[cF];refine⟨aX d6 d6,t.flat.length-(j+1),d6,j+1,rfl,rfl,rfl,d8,aA,rfl,λj' d' Me tE=>?_⟩;rcases ik j' j with h|h
       . exact hD j' d' h tE
       . have:j'=j:=by omega
         subst this;rw[hd]at tE;cases tE;omega
   . have hj:j=t.flat.length:=by omega
     subst hj;have hnd:¬ 60<t.deep:=λh6=>by
      obtain⟨d,h1,h2⟩:=(LC t).2 h6;obtain⟨q,hq,Mt⟩:=List.getElem_of_mem h1;exact hD q d d6 (by rw[<-Mt];simp) h2
     refine AK (i:=0) MA G4 d6 λdc v93 g5=>?_;have hlen:dK (some false) v93=.val (bv t.kids.length):=g5.sl.len;simp only[bh,hlen,ad];have e5:=e3'.trans g5.ex;refine yF (df (λh6=>?_) λh6=>?_)
     . rw[if_pos (.inr d6)]at h;exact aq.mk (h _ e5)
     . rw[if_neg d6]at h;exact aq.mk (h _ e5)
section
variable {X:Rx}{i:Nat}
def aao{f:Nat}(hi:i<=X.L.length)(h2:2<=lev)(h8:lev<=8)(he:40*(X.L.length-i)+(11-lev)<=f+1)
 (hC:∀f' j u3,f'<=f->j<=X.L.length->i<=j->2<=u3->u3<=8->40*(X.L.length-j)+(11-u3)<=f'->Cr X 229 [bv ((u3:Int)-2)] j (fZ X.L 0 f' u3 j) 1)
 (hA:lev=8->Cr X 255 [] i (fZ X.L 0 f 9 i) 1):Cr X 229 [bv ((lev:Int)-2)] i (fZ X.L 0 (f+1) lev i) 1:=by
 refine⟨λr U R bad V hr hs O=>?_,(uV (f+1)).2.2.2.1 i lev hi d6 he,λns j h=>(uW (f+1)).2.2.2.1 h⟩;refine Y1 ?_;dsimp only[Y0,jN,di,ae,lD,ak,pZ,mR,SZ,ahF,aQ,ah,ar,ca,cJ,aC,dm,kT,mz,oe,kN];have S:=S2.start hr hi hs;have lg:=X.small;refine pQ S ?_;intro jj uH;have gen:lev<=7->∀aa,S2 X r U V bad i ((fZ X.L 0 f (lev+1) i).bind λa j=>ky X.L 0 f lev a j) [] aa->jj (.box r 0) (bv ((lev:Int)-2)) aa:=λh7 aa S=>uH _ _ _ (Tm hi h2 h7 he hC S O);rw[fZ]at S;simp only[show ¬ lev=9 by omega,if_false]at S;simp only[aN,ad,bp];refine⟨λh=>?_,λh=>?_⟩
 . have:lev=4:=by omega
   subst this;simp only[if_true]at S;refine fM S (λhb hw aK S=>?_) λhf S=>?_
   . simp only[aL];have aA:=de hw;refine jC [co 19,.str [],bv 0,bv 0,bv (cT X.L 0 i),bv 0] rfl ?_;refine fy (hC f (i+1) 4 (da _) aA d6 d6 d6 d6) S λuN j3 ui b3 bG h3 Jz xX S e3=>?_;have:=S.hi;refine EH ?_;exact pt [(b3,ui)] (fl:=ui) d8 d8 (.inr ⟨.full,rfl⟩) d8 S O (λ_=>rfl) d6 (λh=>by omega) d6
   . simp only[aG];refine gen d6 _ (S.re λ_=>?_);obtain⟨f',rfl⟩:∃f',f=f'+1:=⟨f-1,d6⟩;have:∀a j,ky X.L 0 (f'+1) 4 a j=.ok a j:=λa j=>by
      rw[ky,show mi X.L 4 j=none by simp[mi]]
     simp only[this];exact (PR.Pk _).symm
 . simp only[show ¬ lev=4 by omega,if_false]at S;refine⟨λh=>?_,λh=>gen d6 _ S⟩;have:lev=8:=by omega
   subst this;refine fy (hA rfl) S λog j1 AN b1 aK h1 Az xW S e1=>?_;refine⟨λmm v0 v6 aa=>∃eL j left b f',mm=X.L.length-j/\v0=.box r 0/\v6=.ms b 0 left.length 6 43/\i<=j/\left.length<=8*(j-i)+1/\f'<=f/\(eL=false->40*(X.L.length-j)+1<=f')/\S2 X r U V eL j (ky X.L 0 f' 8 left j) [(b,bM left)] aa,
    ⟨_,og,j1,AN,b1,f,rfl,rfl,rfl,h1,Az,da _,λhb=>by have:=xW hb;have:=S.hi;omega,S⟩,?_⟩
   clear S;rintro mm v0 v6 aV ⟨jP,j,left,b,f',rfl,rfl,rfl,eF,hl,nv,mD,S⟩;refine wq S.A.box su ?_;simp only[bh];cases hb:(!jP&&bP X.L j su) with
   | false =>
     simp only[aG];refine wv (S.re λqG=>?_) O (.head _) eF (λ_=>hl);have:=mD qG;obtain⟨tz,rfl⟩:∃tz,f'=tz+1:=⟨f'-1,d6⟩;have hw:bP X.L j su=false:=by simpa [qG] using hb
     rw[ky,show mi X.L 8 j=none by simp[mi,hw]]
   | true =>
     have qG:jP=false:=by cases jP<;>simp_all
     subst qG;have hw:bP X.L j su:=by simpa using hb
     have hjl:=de hw;have:=mD rfl;obtain⟨tz,rfl⟩:∃tz,f'=tz+1:=⟨f'-1,d6⟩;simp only[aL];rw[ky,show mi X.L 8 j=some 25 by simp[mi,hw]]at S;simp only[if_true]at S;refine F8 hw S λcI S=>?_;refine rq S λuN j3 n3 dc h3 S=>?_;have:=S.hi;refine jC [co 25,.str [],bv n3,bv 0,bv (cT X.L 0 j),bv 0] rfl ?_;refine EH ?_;refine Lc [(b,left)] d8 (.inr ⟨.full,rfl⟩) S (by simp;omega) d8 λb6 jg S e6=>?_;have p6:(([(b,left)]:List (Nat×List Nd)).map Prod.snd).flatten=left:=by simp
     rw[p6]at S ⊢;refine⟨X.L.length-j3,d6,uN,j3,node 25 [] n3 0 (cT X.L 0 j) left,b6,tz,rfl,rfl,rfl,d6,?_,d6,λhb=>by omega,S.sub (List.Sublist.cons_cons _ (List.nil_sublist _))⟩;rw[cR];omega
def aeH{L:List Tk}{i:Nat}{w:aT}(h:ij L i 2):bP L i w=false:=by
 unfold ij at h;unfold bP;split at h
 . rename_i t ht;have:t.k=2:=by simpa using h
   simp[this]
 . cases h
def ahj{r:Nat}{aj U:St}{bad:Bool}{V P Q:PR (List Nd)}{nb:List (Nat×List AV)}{R:bi}{K':am}{k:Nat}(S:S2 X r aj V bad i (if ij X.L i k=true then P else Q) nb U)
 (h1:bad=false->ij X.L i k->S2 X r aj V false i P nb U->K' ce U) (h2:(bad=false->ij X.L i k=false)->S2 X r aj V bad i Q nb U->K' ci U):ag K 174 [.box r 0,co k] U (bD K' (aD R)):=by
 refine Qu S.A.box k ?_;simp only[bh];cases hb:(!bad&&ij X.L i k) with
 | false =>
   have hf:bad=false->ij X.L i k=false:=λe=>by simpa [e] using hb
   exact h2 hf (S.re λe=>if_neg (by simp[hf e]))
 | true =>
   have qG:bad=false:=by cases bad<;>simp_all
   subst qG;have hk:ij X.L i k:=by simpa using hb
   exact h1 rfl hk (S.re λ_=>if_pos hk)
def abL{r:Nat}{aj U:St}{bad:Bool}{V:PR (List Nd)}{b1:Nat}{kK:List (Nat×List AV)}{R:bi}{K':AV->AV->am}{m:AV}{fu:Nat}
 (C:∀f' j,f'<=fu->j<=X.L.length->i<=j->40*(X.L.length-j)+12<=f'->Cr X 270 [] j (jX X.L 0 f' j) 1) {ns:List Nd} {i0:Nat} (sE:i0<=i) (G2:ns.length<=8*(i-i0)+1) (hf:bad=false->40*(X.L.length-i)+1<=fu) {q:List Nd->Nat->PR (List Nd)}
 (S:S2 X r aj V bad i ((ki X.L 0 fu ns i).bind q) ((b1,bM ns)::kK) U)
 (h:∀eL j acc b aa,i<=j->acc.length<=8*(j-i0)+1->S2 X r aj V eL j (q acc j) ((b,bM acc)::kK) aa->K' (.box r 0) m (.ms b 0 acc.length 6 43) aa) :
 nh 3 [.box r 0,m,.ms b1 0 ns.length 6 43] U λlp v0 v3 v4 U =>
  ag K 114 [v0,(AV.str ep)] U (bD (λnT U =>
  cX nT (
   ag K 270 [v0] U (bD (λzo U =>
   (dH (some (43,6)) false v4 zo U).wp K U (λrB U =>
   lp v0 v3 rB U) (aD R)) (aD R))) (
   K' v0 v3 v4 U)) (aD R)):=by
 refine⟨λmm v0 v3 v4 aa=>∃eL j acc b f',mm=X.L.length-j/\v0=.box r 0/\v3=m/\v4=.ms b 0 acc.length 6 43/\i<=j/\acc.length<=8*(j-i0)+1/\f'<=fu/\(eL=false->40*(X.L.length-j)+1<=f')/\S2 X r aj V eL j ((ki X.L 0 f' acc j).bind q) ((b,bM acc)::kK) aa,
  ⟨_,bad,i,ns,b1,fu,rfl,rfl,rfl,rfl,da _,G2,da _,hf,S⟩,?_⟩
 rintro mm v0 v3 v4 aV ⟨eL,j,acc,b,f',rfl,rfl,rfl,rfl,eF,uX,TZ,mD,S⟩;have hs:=X.small;have hj:=S.hi
 replace S:=S.re (W':=if bP X.L j ep=true then (jX X.L 0 (f'-1) (j+1)).bind λb j=>(ki X.L 0 (f'-1) (acc++b) j).bind q else q acc j) (λhb=>by
  have:=mD hb;cases f' with
  | zero=>omega
  | succ f' =>
    rw[ki,Nat.add_sub_cancel];split
    . cases jX X.L 0 f' (j+1)<;>rfl
    . rfl)
 refine fM S (λhb hw bG S=>?_) λPE S=>?_
 . simp only[aL];have aA:=de hw;have PE:=mD hb;refine fy (C (f'-1) _ d6 aA d6 d6) S λjP j2 uh b2 cI p7 wR hg S e=>?_;have ajI:=S.hi;refine Nu (nb1:=[(b2,bM uh)]) S (.inl d8) d6 λb3 dc S=>?_;refine⟨X.L.length-j2,d6,jP,j2,acc++uh,b3,f'-1,rfl,rfl,rfl,rfl,d6,by rw[dx];omega,d6,λhb=>by have:=hg hb;omega,?_⟩;exact S.sub (List.Sublist.cons_cons _ (List.Sublist.cons _ (List.Sublist.refl _)))
 . simp only[aG];exact h eL j acc b aV eF uX S
end
section
variable {X:Rx}{i:Nat}
def aem{f:Nat}(hi:i<=X.L.length)(he:40*(X.L.length-i)+1<=f+1)
 (hT:∀j,j<=X.L.length->i+1<=j->Cr X 120 [] j (iE X.L 0 f j) 1)
 (hR:∀f' j,f'<=f->j<=X.L.length->i+1<=j->40*(X.L.length-j)+12<=f'->Cr X 270 [] j (jX X.L 0 f' j) 1):Cr X 255 [] i (lX X.L 0 (f+1) i) 1:=by
 refine⟨λr U R bad V hr hs O=>?_,(uV (f+1)).2.2.2.2.2.1 i hi he,λns j h=>(uW (f+1)).2.2.2.2.2.1 h⟩;refine Zx ?_;dsimp only[Zw,ae,ak,vw,fU,aQ,ah,dj,cw,ej,cn,aC,dr,dA];have S:=S2.start hr hi hs;have lg:=X.small;rw[lX]at S;refine pQ S ?_;refine jC [co 0,.str [],bv 0,bv 0,bv (cT X.L 0 i),bv 0] rfl ?_;refine Nv S λbk aK S=>?_;intro jj uH;have fin:∀(kd:Int)(x:aT)(n:Int)(j:Nat)(eL:Bool)(W:PR (List Nd))(aa:St),i<=j->S2 X r U V eL j W [(bk,bx kd x n 0 (cT X.L 0 i))] aa->(eL=false->W=.ok (node kd x n 0 (cT X.L 0 i) []) j)->jj (.box bk 0) aa:=λkd x n j eL W aa eF S hW=>by
  refine uH _ _ ?_;refine wu S (.head _) ?_;exact pt [] rfl d8 (.inl ⟨rfl,rfl⟩) d8 S O hW eF (λh=>by simp) d8
 replace S:=S.re (W':=if ij X.L i 2=true then (js X.L i).bind λn j=>.ok (node 26 [] n 0 (cT X.L 0 i) []) j
  else if bP X.L i eA=true then .ok (node 27 [] 0 0 (cT X.L 0 i) []) (i+1)
  else if bP X.L i eK=true then .ok (node 28 [] 0 0 (cT X.L 0 i) []) (i+1)
  else if bP X.L i gG=true then .ok (node 29 [] 0 0 (cT X.L 0 i) []) (i+1)
  else if bP X.L i iZ=true then .ok (node 30 [] 0 0 (cT X.L 0 i) []) (i+1)
  else if bP X.L i lL=true then (fO X.L (i+1)).bind λx j=>.ok (node 31 x 0 0 (cT X.L 0 i) []) j
  else if bP X.L i ni=true then (fO X.L (i+1)).bind λx j=>.ok (node 32 x 0 0 (cT X.L 0 i) []) j
  else if bP X.L i dM=true then (iE X.L 0 f (i+1)).bind λa j=>(bR X.L dE j).bind λ_ j=>.ok a j
  else (fO X.L i).bind λx j=>if bP X.L j dM=true then (jX X.L 0 f (j+1)).bind λa j=>(ki X.L 0 f a j).bind λa j=>(bR X.L dE j).bind λ_ j=>.ok (node 34 x 0 0 (cT X.L 0 i) a) j
   else .ok (node 33 x 0 0 (cT X.L 0 i) []) j) (λ_=>by
  by_cases h:ij X.L i 2
  . simp[h,aeH h]
  . simp[h])
 refine ahj S (λhb hk S=>?_) λGU S=>?_
 . simp only[aL];refine rq S λog j1 n1 aV h1 S=>?_;refine iB [] S λbG S=>?_;refine SC [] S λcI S=>?_;exact fin _ _ _ _ _ _ _ d6 S λ_=>rfl
 simp only[aG];refine fM S (λhb hw aV S=>?_) λmD S=>?_
 . simp only[aL];refine iB [] S λbG S=>?_;exact fin _ _ _ _ _ _ _ d6 S λ_=>rfl
 simp only[aG];refine fM S (λhb hw aV S=>?_) λmD S=>?_
 . simp only[aL];refine iB [] S λbG S=>?_;exact fin _ _ _ _ _ _ _ d6 S λ_=>rfl
 simp only[aG];refine fM S (λhb hw aV S=>?_) λmD S=>?_
 . simp only[aL];refine iB [] S λbG S=>?_;exact fin _ _ _ _ _ _ _ d6 S λ_=>rfl
 simp only[aG];refine fM S (λhb hw aV S=>?_) λmD S=>?_
 . simp only[aL];refine iB [] S λbG S=>?_;exact fin _ _ _ _ _ _ _ d6 S λ_=>rfl
 simp only[aG];refine fM S (λhb hw aV S=>?_) λmD S=>?_
 . simp only[aL];refine qv S λog j1 x bG h1 S=>?_;refine iB [] S λcI S=>?_;refine pP [] S λdc S=>?_;exact fin _ _ _ _ _ _ _ d6 S λ_=>rfl
 simp only[aG];refine fM S (λhb hw aV S=>?_) λmD S=>?_
 . simp only[aL];refine qv S λog j1 x bG h1 S=>?_;refine iB [] S λcI S=>?_;refine pP [] S λdc S=>?_;exact fin _ _ _ _ _ _ _ d6 S λ_=>rfl
 simp only[aG];refine fM S (λhb hw aV S=>?_) λmD S=>?_
 . simp only[aL];have aA:=de hw;refine fy (hT _ aA d6) S λog j1 AN b1 bG h1 Az xW S e1=>?_;refine fA S λjP j2 a2 cI h2 _ S=>?_;exact wv S O (.head _) d6 (λ_=>by omega)
 simp only[aG];refine qv S λog j1 x bG h1 S=>?_;refine iB [] S λcI S=>?_;refine pP [] S λdc S=>?_;refine fM S (λhb hw jg S=>?_) λPE S=>?_
 . simp only[aL];have aA:=de hw;refine iB [] S λgZ S=>?_;refine fy (hR f _ (da _) aA d6 d6) S λuN j3 ui b3 pE h3 Jz xX S e3=>?_;refine abL (i0:=j1+1) (λf' j nv hj eF TZ=>hR f' j nv hj d6 TZ) h3 Jz (λhb=>by have:=xX hb;have:=S.hi;omega) S λCM j4 acc b4 rF h4 hn4 S=>?_;refine fA S λxK j5 a5 sw h5 _ S=>?_;have:=S.hi;refine wu S (.tail _ (.head _)) ?_;refine EH ?_;exact pt [(b4,acc)] (fl:=acc) d8 d8 (.inr ⟨.full,rfl⟩) d8 S O (λ_=>rfl) d6 (λh=>by omega) d6
 . simp only[aG];exact fin _ _ _ _ _ _ _ d6 S λ_=>rfl
def afY{f:Nat}(hi:i<=X.L.length)(he:40*(X.L.length-i)+12<=f+1)
 (hF:∀j,j<=X.L.length->i+1<=j->Cr X 176 [] j (cM X.L 0 f j) 1)
 (hT:Cr X 120 [] i (iE X.L 0 f i) 1):Cr X 270 [] i (jX X.L 0 (f+1) i) 1:=by
 refine⟨λr U R bad V hr hs O=>?_,(uV (f+1)).2.2.2.2.2.2.2 i hi he,λns j h=>(uW (f+1)).2.2.2.2.2.2.2 h⟩;refine ZD ?_;dsimp only[ZC,jN,ae,lD,ak,fU,aQ,ah,dj,cw,ej,cn,aC,dr,dA,kN];have S:=S2.start hr hi hs;have lg:=X.small;rw[jX]at S;refine pQ S ?_;refine jC [co 0,.str [],bv 0,bv 0,bv (cT X.L 0 i),bv 0] rfl ?_;refine Nv S λbk aK S=>?_;refine fM S (λhb hw aV S=>?_) λGU S=>?_
 . simp only[aL];refine iB [] S λbG S=>?_;refine fA S λog j1 a1 cI h1 _ S=>?_
   replace S:=S.re (W':=(mY X.L 0 j1).bind λa j=>(mG X.L (mY X.L 0) (X.L.length+1) a j).bind λa j=>(bR X.L dE j).bind λ_ j=>(cM X.L 0 f j).bind λb j=>.ok (node 35 [] 0 0 (cT X.L 0 i) (a++b)) j) (λ_=>by
    unfold mF;cases mY X.L 0 j1<;>rfl)
   refine fy (H5 S.hi) S λjP j2 uh b2 dc h2 wR Jt S e2=>?_;refine F5 (c:=1) (i0:=j1) (λi hi=>H5 hi) d6 h2 wR (λhb=>by omega) S λuN j3 acc b3 jg h3 Jz S=>?_;refine fA S λCM j4 a4 gZ h4 _ S=>?_;refine AU S (.tail _ (.head _)) ?_;have S0:=S;refine fy (hF _ S.hi d6) S λxK j5 uj b5 pE h5 Mn Md S e5=>?_;have:=S.hi;refine⟨S0.same (.tail _ (.head _)) e5,Sj ?_⟩;exact xF (Q:=λU=>dR _ gZ U) [(b3,acc),(b5,uj)] (fl:=acc++uj) d8 d8 (.inr ⟨.full,rfl⟩) d8 S O (λ_=>rfl) d6 (λh=>by simp;omega) (by simp;omega) λaa e=>S0.same (.tail _ (.head _)) (e5.trans e.vZ)
 simp only[aG];refine fM S (λhb hw aV S=>?_) λGU S=>?_
 . simp only[aL];refine iB [] S λbG S=>?_;refine fA S λog j1 a1 cI h1 _ S=>?_;refine fy (hF _ S.hi d6) S λjP j2 uh b2 dc h2 wR Jt S e2=>?_;refine fA S λuN j3 a3 jg h3 _ S=>?_;refine fA S λCM j4 a4 gZ h4 _ S=>?_;refine fy (H5 S.hi) S λxK j5 uj b5 pE h5 Mn Md S e5=>?_;refine fA S λQZ j6 a6 rF h6 _ S=>?_;refine fy (hF _ S.hi d6) S λQ0 j7 Dy b7 sw h7 hn7 PG S e7=>?_;refine fA S λakV j8 a8 ac0 h8 _ S=>?_;have:=S.hi;refine wu S (.tail _ (.tail _ (.tail _ (.head _)))) ?_;refine aiY ?_;exact pt [(b2,uh),(b5,uj),(b7,Dy)] (fl:=uh++uj++Dy) d8 d8 (.inr ⟨.full,rfl⟩) d8 S O (λ_=>rfl) d6 (λh=>by simp;omega) (by simp;omega)
 simp only[aG];exact IL hT S O (da _)
end
section
variable {X:Rx}{i:Nat}
def abP{r:Nat}{U:St}{R:bi}(hr:U.box r=some (rr X i false))(h:R (.ret (.bool (zH X.L i))) U):ag K 177 [.box r 0] U R:=by
 refine X1 ?_;dsimp only[X0,fe,ae,ak,ah,bX];refine wq hr eD ?_;simp only[bh,dS,Bool.true_and];unfold zH at h;cases h1:bP X.L i eD with
 | true =>
   rw[h1]at h;simp only[aF,show (true==false)=false from rfl,aw,bB,aG,av,if_true,ad];exact aq.mk (by simpa using h)
 | false =>
   rw[h1]at h;simp only[aF,eG,aw,bO,ao,aL];refine wq hr jc ?_;simp only[bh,dS,Bool.true_and];cases h2:bP X.L i jc with
   | true =>
     rw[h2]at h;simp only[av,bW,if_false,ad,aF,show (true==false)=false from rfl,aw,bB,aG,if_true];exact aq.mk (by simpa using h)
   | false =>
     rw[h2]at h;simp only[av,bW,if_false,ad,aF,eG,aw,bO,ao,aL];refine wq hr eW ?_;simp only[bh,dS,Bool.true_and,av,bW,if_false,ad];exact aq.mk (by simpa using h)
def abQ{f:Nat}(hi:i<=X.L.length)(he:40*(X.L.length-i)+11<=f+1)
 (hF:∀f' j,f'<=f->j<=X.L.length->i<=j->40*(X.L.length-j)+10<=f'->Cr X 176 [] j (cM X.L 0 f' j) 1):Cr X 120 [] i (iE X.L 0 (f+1) i) 1:=by
 refine⟨λr U R bad V hr hs O=>?_,(uV (f+1)).1 i hi he,λns j h=>(uW (f+1)).1 h⟩;refine Wn ?_;dsimp only[Wm,eh,qk,yG,zu,tQ,Be,cU,jN,KG,ae,lD,bg,yH,ak,uC,wM,gX,aQ,ah,ar,cw,cG,ej,cn,aC,qm];have S:=S2.start hr hi hs;have lg:=X.small;rw[iE]at S;refine fy (hF f i (da _) hi (da _) d6) S λog j1 AN b1 aK h1 Az xW S e1=>?_;intro jj uH;have fin:∀(acc:List Nd)(at_:Int)(many j b:Nat)(eL:Bool)(W:PR (List Nd))(aa:St),i<=j->1<=many->acc.length+7*(many-1)<=8*(j-i)+1->S2 X r U V eL j W [(b,bM acc)] aa->(eL=false->W=.ok (if many=1 then acc else node 9 [] 0 0 at_ acc) j) ->
  jj (.ms b 0 acc.length 6 43) (bv at_) (bv many) aa:=λacc at_ many j b eL W aa eF hm hn S hW=>by
  refine uH _ _ _ _ ?_;simp only[aN,ad,bp];refine⟨λh=>?_,λh=>?_⟩
  . have h:many=1:=by omega
    subst h;exact wv (S.re λhb=>by rw[hW hb,if_pos rfl]) O (.head _) eF (λ_=>by omega)
  . have cD:many≠1:=by omega
    have:=S.hi;refine jC [co 9,.str [],bv 0,bv 0,bv at_,bv 0] rfl ?_;refine EH ?_;exact pt [(b,acc)] (fl:=acc) d8 d8 (.inr ⟨.full,rfl⟩) d8 S O (λhb=>by rw[hW hb,if_neg cD]) eF (λh=>by omega) d6
 refine⟨λmm v0 v3 v4 v5 aa=>∃eL j acc b many f' at_,mm=X.L.length-j/\v0=.box r 0/\v3=.ms b 0 acc.length 6 43/\v4=bv at_/\v5=bv (many:Nat)/\i<=j/\1<=many/\many<=1+j/\acc.length+7*(many-1)<=8*(j-i)+1/\f'<=f/\(eL=false->40*(X.L.length-j)+1<=f')/\(eL=false->many=1->cT X.L 0 j=cT X.L 0 j1)/\(many≠1->at_=cT X.L 0 j1)/\S2 X r U V eL j (mr X.L 0 f' (cT X.L 0 j1) acc many j) [(b,bM acc)] aa,
  ⟨_,og,j1,AN,b1,1,f,0,rfl,rfl,rfl,rfl,rfl,h1,da _,d6,d6,da _,λhb=>by have:=xW hb;have:=S.hi;omega,λ_ _=>rfl,λh=>absurd rfl h,S⟩,?_⟩
 clear S;rintro mm v0 v3 v4 v5 aV ⟨jP,j,acc,b,many,f',at_,rfl,rfl,rfl,rfl,rfl,eF,Jy,hmj,hl,nv,mD,sG,tZ,S⟩;have hj:=S.hi;have uI:=S.A.box;have stop:(jP=false->¬ (bP X.L j dF/\j+1<X.L.length/\zH X.L (j+1)=false))->∀aa,S2 X r U V jP j (mr X.L 0 f' (cT X.L 0 j1) acc many j) [(b,bM acc)] aa->jj (.ms b 0 acc.length 6 43) (bv at_) (bv many) aa:=λhn aa S=>by
  refine fin acc at_ many j b jP _ aa eF Jy hl S λhb=>?_;have:=mD hb;obtain⟨tz,rfl⟩:∃tz,f'=tz+1:=⟨f'-1,d6⟩;rw[mr,if_neg (hn hb)]
  by_cases h:many=1
  . simp[h]
  . simp only[h,if_false,tZ h]
 refine⟨[r],?_⟩;refine wq uI dF ?_;simp only[bh];cases hb:(!jP&&bP X.L j dF) with
 | false =>
   refine⟨λ_ _=>rfl,?_⟩
   iterate 3 refine gM rfl ?_
   refine⟨by simp[cB],?_⟩
   iterate 5 refine gM rfl ?_
   refine⟨by simp[cB],?_⟩
   iterate 3 refine gM rfl ?_
   refine wF ?_;simp only[aG];refine stop (λe h=>?_) _ S;rw[e,h.1]at hb;cases hb
 | true =>
   have qG:jP=false:=by cases jP<;>simp_all
   subst qG;have hw:bP X.L j dF:=by simpa using hb
   have aA:=de hw;have TZ:=mD rfl;refine⟨λ_ _=>rfl,?_⟩;refine eZ rfl rfl ?_;refine eZ rfl rfl ?_;refine eZ rfl rfl ?_;refine⟨by simp[cB],?_⟩;refine uo (o:=1) rfl uI rfl rfl ?_;refine Sn rfl ⟨aX d6 d6,?_⟩;refine eZ rfl rfl ?_;refine eZ rfl rfl ?_;refine eZ rfl rfl ?_;refine⟨by simp[cB],?_⟩;refine uo (o:=0) rfl uI rfl rfl ?_;refine Sq rfl X.tr ?_
   by_cases nH:j+1<X.L.length
   . refine eZ (v:=.bool true) rfl (by rw[aY];simp;omega) ?_;refine wG ?_;simp only[aL,bL,ad,aP,cK];rw[gJ uI];simp only[rr,List.drop,bI];refine F8 hw S λcI S4=>?_;refine abP S4.A.box ?_;simp only[bh];cases hit:zH X.L (j+1) with
     | true =>
       simp only[aL];rw[cV S4.A.box];refine⟨⟨rfl,rfl,by simp[rr]⟩,?_⟩;have mC:(cI.set r (.box (ax (rr X (j+1) false) 1 (al (bv (j:Nat)))))).box r=some (rr X j false):=by rw[aZ];simp[ax,rr]
       exact stop (λ_ h=>by rw[hit]at h;cases h.2.2) _ ⟨⟨mC,S4.A.ex.set (.inr rfl)⟩,hj,S4.sp,S4.own.jW ((jT.refl _ _).set (.inr rfl))⟩
     | false =>
       simp only[aG];obtain⟨tz,rfl⟩:∃tz,f'=tz+1:=⟨f'-1,d6⟩;rw[mr,if_pos ⟨hw,nH,hit⟩]at S4;intro j2 p7;have step:∀a',a'=cT X.L 0 j1->j2 (.box r 0) (.ms b 0 acc.length 6 43) (bv a') (bv many) cI:=λa' ha=>by
        refine p7 _ _ _ _ _ ?_;refine fy (hF tz (j+1) d6 aA d6 d6) S4 λxK j5 uj b5 dc h5 Mn Md S e5=>?_;have:=S.hi;refine Nu (nb1:=[(b5,bM uj)]) S (.inl d8) d6 λb6 jg S=>?_;rw[cF];refine⟨aX d6 d6,X.L.length-j5,d6,xK,j5,acc++uj,b6,many+1,tz,a',rfl,rfl,rfl,rfl,d8,d6,d6,d6,by rw[dx];omega,d6,λhb=>by have:=Md hb;omega,λ_ h=>by omega,λ_=>ha,?_⟩;exact S.sub (List.Sublist.cons_cons _ (List.nil_sublist _))
       simp only[aN,ad,bp];refine⟨λh=>step _ (sG rfl d6),λh=>step _ (tZ d6)⟩
   . refine eZ (v:=.bool false) rfl (by rw[aY];simp;omega) ?_;refine wG ?_;simp only[aG];exact stop (λ_ h=>nH h.2.1) _ S
end
structure afR (X:Rx) (fu:Nat):Prop where
 term:∀f',f'<=fu->∀j,j<=X.L.length->40*(X.L.length-j)+11<=f'->Cr X 120 [] j (iE X.L 0 f' j) 1
 first:∀f',f'<=fu->∀j,j<=X.L.length->40*(X.L.length-j)+10<=f'->Cr X 176 [] j (cM X.L 0 f' j) 1
 chain:∀f',f'<=fu->∀j lev,j<=X.L.length->2<=lev->lev<=8->40*(X.L.length-j)+(11-lev)<=f'->Cr X 229 [bv ((lev:Int)-2)] j (fZ X.L 0 f' lev j) 1
 atom:∀f',f'<=fu->∀j,j<=X.L.length->40*(X.L.length-j)+1<=f'->Cr X 255 [] j (lX X.L 0 f' j) 1
 arg:∀f',f'<=fu->∀j,j<=X.L.length->40*(X.L.length-j)+12<=f'->Cr X 270 [] j (jX X.L 0 f' j) 1
def af2(X:Rx)(fu:Nat):afR X fu:=by
 induction fu with
 | zero=>constructor<;>intros<;>omega
 | succ fu B =>
   have st:∀{f':Nat},f'<=fu+1->f'<=fu\/f'=fu+1:=λh=>by omega
   refine⟨λf' hf j hj he=>?_,λf' hf j hj he=>?_,λf' hf j lev hj h2 h8 he=>?_,λf' hf j hj he=>?_,λf' hf j hj he=>?_⟩
   . rcases st hf with h|rfl
     . exact B.term f' h j hj he
     . exact abQ hj he λtz q h1 h2 h3 h4=>B.first tz h1 q h2 h4
   . rcases st hf with h|rfl
     . exact B.first f' h j hj he
     . exact aaI hj he (λq h1 h2=>B.first fu (da _) q h1 d6) (B.chain fu (da _) j 2 hj d6 d6 d6)
   . rcases st hf with h|rfl
     . exact B.chain f' h j lev hj h2 h8 he
     . refine aao hj h2 h8 he (λtz q u3 h1 h3 h4 h5 h6 h7=>B.chain tz h1 q u3 h3 h5 h6 h7) λh=>?_;subst h;obtain⟨g,rfl⟩:∃g,fu=g+1:=⟨fu-1,d6⟩;rw[fZ];simp only[if_true];exact B.atom g d6 j hj d6
   . rcases st hf with h|rfl
     . exact B.atom f' h j hj he
     . exact aem hj he (λq h1 h2=>B.term fu (da _) q h1 d6) λtz q h1 h2 h3 h4=>B.arg tz h1 q h2 h4
   . rcases st hf with h|rfl
     . exact B.arg f' h j hj he
     . exact afY hj he (λq h1 h2=>B.first fu (da _) q h1 d6) (B.term fu (da _) j hj d6)
section
variable {X:Rx}{r i:Nat}{bad:Bool}{aj U:St}{V W W':PR (List Nd)}{nb:List (Nat×List AV)}{R:bi}{K':am}{Kp:am}
def ahv{e:Nat}{x y u:AV}(hx:x.dC)(hc:al x=[x])(hy:y.dC)(hd:al y=[y])(hu:u.dC)(he:al u=[u])(h:K' (.vec 3 .full [x,y,u]) U):(ai (some (e,1)) (some [z]) 3 false [(0,x),(1,y),(2,u)]).wp K U K' Kp:=by
 rw[fN];refine⟨d6,?_⟩;rw[eg (o:=0) (s:=1) rfl];refine⟨⟨hx,by rw[hc];rfl,by simp[bZ]⟩,?_⟩;rw[eg (o:=1) (s:=1) rfl];refine⟨⟨hy,by rw[hd];rfl,by rw[hc];simp[bZ,ax]⟩,?_⟩;rw[eg (o:=2) (s:=1) rfl];refine⟨⟨hu,by rw[he];rfl,by rw[hc,hd];simp[bZ,ax]⟩,?_⟩;rw[gS,hc,hd,he];exact⟨rfl,h⟩
def aft{a kd:Int}(S:S2 X r aj V bad i W nb U)(h:∀k aa,S2 X r aj V bad i W ((k,bx kd [] 0 0 a)::nb) aa->K' (.box k 0) aa) :
 (aW.mU [co 0,AV.str [],bv 0,bv 0,bv 0,bv 0]).wp K U (λv3 U=>(dD (some (true,6)) v3 (.agg [co kd,.str [],bv 0,bv 0,bv a,bv 0]) U).wp K U (λ_ U=>K' v3 U) Kp) Kp :=
 VC S λb S=>AW (nb1:=[]) S rfl ⟨rfl,rfl,d8⟩ λaa S=>h b aa S
def afu{kind:Int}{text:aT}{n m at_ sz:Int}{c:Nat}{fl:List Nd}{cp:nj}{vs:List AV}{nss:List (List Nd)}(hk:ac2 U vs nss)(p6:nss.flatten=fl)(gk:vs.length<=100)(S:S2 X r aj V bad i W nb U)(O:xI X r aj R V i0 c)(hW:bad=false->W=.ok (node kind text n m at_ fl) i)
 (hi:i0<=i) (hn:bad->fl.length+1<=8*(i-i0)+c) (hl:fl.length<=1000000):ag K 60 [.agg [co kind,.str text,bv n,bv m,bv at_,bv sz],.vec vs.length cp vs] U (bD (λv U=>aq R v U) (aD R)):=by
 subst p6;refine M7 (.inr ⟨cp,rfl⟩) hk hl gk λb aa hb mC e=>?_;have cD:b≠r:=λe=>cN S.A.box (e▸hb);have S':S2 X r aj V bad i W ((b,bM (node kind text n m at_ nss.flatten))::nb) aa:=⟨S.A.trans (.mV S.A.box e),S.hi,S.sp,S.own.cons e.vZ cD (S.A.ex.fresh cD hb) hb mC⟩;exact wv (S'.re hW) O (.head _) hi hn
def DQ(L:List Tk)(f:Nat)(A k:Int)(x:aT)(a:List Nd)(j:Nat):PR (List Nd) :=
 (bR L ef j).bind λ_ j=>(jh L 0 j).bind λb j=>(bR L gH j).bind λ_ j=>(iE L 0 f j).bind λc j =>
   (bR L dF j).bind λ_ j=>.ok (node k x 0 0 A (a++b++c)) j
def EA(L:List Tk)(f:Nat)(A k:Int)(j:Nat):PR (List Nd) :=
 (fO L j).bind λx j=>(bR L dM j).bind λ_ j =>
   if bP L j dE=true then DQ L f A k x [] (j+1) else (jM L 0 f j).bind λa j=>(mG L (jM L 0 f) f a j).bind λa j=>(bR L dE j).bind λ_ j=>DQ L f A k x a j
def abe{L:List Tk}{f i:Nat}:lH L 0 f i=if bP L i eD=true then (fO L (i+1)).bind λx j=>(bR L ef j).bind λ_ j=>(oX L 0 f j).bind λa j=>(bR L dF j).bind λ_ j=>.ok (node 2 x 0 0 (cT L 0 i) a) j
 else if bP L i jc=true then EA L f (cT L 0 i) 3 (i+1) else (bR L eW i).bind λ_ j=>EA L f (cT L 0 i) 4 j:=by
 have Eo:∀k j,((fO L j).bind λx j=>(bR L dM j).bind λ_ j =>
  (if bP L j dE=true then .ok [] j else mF L (jM L 0 f) f j).bind λa j =>
  (bR L dE j).bind λ_ j=>(bR L ef j).bind λ_ j=>(jh L 0 j).bind λb j=>(bR L gH j).bind λ_ j=>(iE L 0 f j).bind λc j =>
  (bR L dF j).bind λ_ j=>.ok (node k x 0 0 (cT L 0 i) (a++b++c)) j)=EA L f (cT L 0 i) k j:=λk j=>by
  unfold EA DQ;cases fO L j with
  | ok x j =>
    simp only[PR.bind];cases bR L dM j with
    | ok u j =>
      simp only[PR.bind]
      by_cases h:bP L j dE
      . simp only[h,if_true,bR,PR.bind]
      . simp only[h,if_false,bW];unfold mF;cases jM L 0 f j<;>rfl
    | bad j=>rfl
    | out=>rfl
  | bad j=>rfl
  | out=>rfl
 unfold lH;split
 . rfl
 . split
   . exact Eo 3 (i+1)
   . cases bR L eW i with
     | ok u j=>exact Eo 4 j
     | bad j=>rfl
     | out=>rfl
end
section
variable {X:Rx}{i:Nat}
def aeM{f:Nat}(hi:i<=X.L.length)(hf:X.L.length<f)(he:40*(X.L.length-i)+11<=f):Cr X 58 [] i (lH X.L 0 f i) 5:=by
 refine⟨λr U R bad V hr hs O=>?_,MI hi he hf,λns j h=>JN h⟩;refine acb ?_;dsimp only[adG,ae,ak,pZ,uC,fU,aQ,ah,dj,cw,ej,fW,cn,aC,dr,dA];have S:=S2.start hr hi hs;have lg:=X.small;rw[abe]at S;refine pQ S ?_;refine jC [co 4,.str [],bv 0,bv 0,bv (cT X.L 0 i),bv 0] rfl ?_;refine aft S λbk aK S=>?_;refine fM S (λhb hw aV S=>?_) λGU S=>?_
 . simp only[aL];refine qv S λog j1 x bG h1 S=>?_;refine iB [] S λcI S=>?_;refine pP [] S λdc S=>?_;refine fA S λjP j2 a2 jg h2 _ S=>?_;refine fy (Qc S.hi hf) S λuN j3 ui b3 gZ h3 Jz xX S e3=>?_;refine fA S λCM j4 a4 pE h4 _ S=>?_;have:=S.hi;refine wu S (.tail _ (.head _)) ?_;refine EH ?_;exact pt [(b3,ui)] (fl:=ui) d8 d8 (.inr ⟨.full,rfl⟩) d8 S O (λ_=>rfl) d6 (λh=>by omega) d6
 simp only[aG];intro jj uH;have rest:∀(kd:Int)(p:Nat)(eL:Bool)(aa:St),i<=p->S2 X r U V eL p (EA X.L f (cT X.L 0 i) kd p) [(bk,bx kd [] 0 0 (cT X.L 0 i))] aa->jj (.box r 0) (.box bk 0) aa:=by
  intro kd p eL aa hp S;refine uH _ _ _ ?_;unfold EA at S;refine qv S λog j1 x bG h1 S=>?_;refine pP [] S λcI S=>?_;refine fA S λjP j2 a2 dc h2 _ S=>?_;intro j3 Jv;have B3:∀(v5:AV)(ns:List Nd)(nbx:List (Nat×List AV))(q:Nat)(eL:Bool)(aa:St),i<=q->ns.length<=8*(q-i)+2->(v5=.af/\ns=[]/\nbx=[]\/∃b,v5=.ms b 0 ns.length 6 43/\nbx=[(b,bM ns)])->S2 X r U V eL q (DQ X.L f (cT X.L 0 i) kd x ns q) (nbx++[(bk,bx kd x 0 0 (cT X.L 0 i))]) aa->j3 (.box r 0) (.box bk 0) v5 aa:=by
   intro v5 ns nbx q eL aa hq G2 hv S;refine Jv _ _ _ _ ?_;unfold DQ at S;refine fA S λuN q3 a3 jg h3 _ S=>?_;refine fy (Ab S.hi) S λCM q4 M8 b4 gZ h4 hn4 hg4 S e4=>?_;refine fA S λxK q5 a5 pE h5 _ S=>?_;refine fy ((af2 X f).term f (da _) _ S.hi d6) S λQZ q6 Qj b6 rF h6 hn6 hg6 S e6=>?_;refine fA S λQ0 q7 a7 sw h7 _ S=>?_;have:=S.hi;refine wu (bk:=bk) (kind:=kd) (text:=x) (n:=0) (m:=0) (at_:=cT X.L 0 i) S d8 ?_;have Ul:v5.dC/\al v5=[v5]:=by
    rcases hv with ⟨rfl,_⟩|⟨b,rfl,_⟩<;>exact⟨rfl,rfl⟩
   refine ahv Ul.1 Ul.2 rfl rfl rfl rfl ?_;have E6:jE sw v5 ns:=by
    rcases hv with ⟨rfl,rfl,_⟩|⟨b,rfl,rfl⟩
    . exact .inl (.inl ⟨rfl,rfl⟩)
    . exact .inr ⟨b,rfl,(S.own.own (b,bM ns) d8).2.1⟩
   have ox:jE sw (.ms b4 0 M8.length 6 43) M8:=.inr ⟨b4,rfl,(S.own.own (b4,bM M8) d8).2.1⟩;have iN:jE sw (.ms b6 0 Qj.length 6 43) Qj:=.inr ⟨b6,rfl,(S.own.own (b6,bM Qj) d8).2.1⟩;refine afu (vs:=[v5,.ms b4 0 M8.length 6 43,.ms b6 0 Qj.length 6 43]) (nss:=[ns,M8,Qj]) (fl:=ns++M8++Qj) ⟨rfl,λk v l h1 h2=>?_⟩ d8 d8 S O (λ_=>rfl) d6 (λh=>by simp;omega) (by simp;omega)
   match k,h1,h2 with
   | 0,h1,h2=>cases h1;cases h2;exact E6
   | 1,h1,h2=>cases h1;cases h2;exact ox
   | 2,h1,h2=>cases h1;cases h2;exact iN
   | k+3,h1,h2=>simp at h1
  refine fM S (λhb hw jg S=>?_) λmD S=>?_
  . simp only[db,ad,cL,aG];exact B3 .af [] [] _ _ _ d6 d8 (.inl ⟨rfl,rfl,rfl⟩) S
  . simp only[db,ad,dS,aL];refine fy (Ng S.hi hf) S λCM q4 M8 b4 gZ h4 hn4 hg4 S e4=>?_;refine F5 (c:=2) (i0:=j2) (λi hi=>Ng hi hf) d6 h4 hn4 (λhb=>by omega) S λxK q5 acc b5 pE h5 Mn S=>?_;refine fA S λQZ q6 a6 rF h6 _ S=>?_;exact B3 _ acc [(b5,bM acc)] _ _ _ d6 d6 (.inr ⟨b5,rfl,rfl⟩) S
 refine fM S (λhb hw aV S=>?_) λmD S=>?_
 . simp only[aL];refine iB [] S λbG S=>?_;exact rest _ _ _ _ d6 S
 . simp only[aG];refine fA S λog j1 a1 bG h1 _ S=>?_;exact rest _ _ _ _ d6 S
end
def afn{X:Rx}{r i:Nat}{bad:Bool}{U:St}{R:bi}(hi:i<=X.L.length)(hr:U.box r=some (rr X i bad))(h:∀aa,dt U aa->R (.ret (.agg [bv (cT X.L s.length i),bv 4])) aa):ag K 59 [.box r 0,.str s] U R:=by
 refine acd ?_;dsimp only[adH,ak,fw,ah,aC,dr,dA,gO,mX,mz,zw,jl,kN];rw[dh];intro b hb;have gz:(U.new b (.box [bv 0,bv 0])).box b=some [bv 0,bv 0]:=aH;have e1:=bK hb (x:=.box [bv 0,bv 0]);have hr1:=e1.bq hr;have f1:=hb.1;generalize U.new b (.box [bv 0,bv 0])=aK at *;refine xn (o:=1) hr1 rfl ?_;refine xn (o:=0) hr1 rfl ?_;rw[X.tr.len];simp only[ao,aY,bp];have fin:∀cells aa,aa=aK->cells=[bv (cT X.L s.length i),bv 4]->(dD (some (true,2)) (.box b 0) (.agg cells) aK).wp K aK (λ_ U=>fV (some (true,2)) (.box b 0) U λr0=>aq R r0 U) (aD R):=by
  rintro cells aa rfl rfl;rw[cV gz];refine⟨⟨rfl,rfl,d8⟩,?_⟩;rw[rP aZ];refine⟨by simp[ax],?_⟩;exact aq.mk (h _ (e1.set f1))
 refine⟨λaA=>?_,λgL=>?_⟩
 . obtain⟨t,ht⟩:∃t,X.L[i]?=some t:=⟨X.L[i]'(by omega),d8⟩;refine xn (o:=0) hr1 rfl ?_;refine xn (o:=1) hr1 rfl ?_;refine qtk (i:=i) rfl ht rfl ?_;refine Q4 [bv t.at_,bv 4] rfl ?_;exact fin _ _ rfl (by simp[cT,ht])
 . simp only[ia,ad];refine jC [bv s.length,bv 4] rfl ?_;exact fin _ _ rfl (by simp[cT,pn (show X.L.length<=i by omega)])
end Go.Rip
