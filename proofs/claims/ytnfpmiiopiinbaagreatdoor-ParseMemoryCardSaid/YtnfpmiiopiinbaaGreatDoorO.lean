import Derived.Test.YtnfpmiiopiinbaaGreatDoorN
set_option linter.all false
namespace Go.Rip
open Go.Proofs Go.RowKit
section
variable {X:Rx}{i:Nat}
def NO{U:St}{r:Nat}{w:aT}{K':am}{Kp:am}(hr:U.box r=some (rd X i))(hi:i<=X.L.length)(h:∀b aa,bP X.L i w=b->gK r (rd X i) U aa->K' (.bool b) aa) :
 (ai (some (9,1)) (some [AV.str []]) 1 false [(0,.str w)]).wp K U (λv U=>ag K 105 [.box r 0,v] U (bD K' Kp)) Kp:=by
 rw[fN];refine⟨d6,?_⟩;rw[eg (o:=0) (s:=1) rfl];refine⟨⟨rfl,rfl,by simp[bZ]⟩,?_⟩;rw[gS];refine⟨rfl,?_⟩;refine RM (l:=[w]) hr hi d8 λaK e1=>?_;exact h _ _ (by rw[Ey]) (.mV hr e1)
def EF{U:St}{r:Nat}{R:bi}{f:FuncId}{p:PR (List Nd)}(C:Ct X f i p)(hr:U.box r=some (rd X i))(O:Out X r U R p):ag K f [.box r 0] U (bD (λv U=>aq R v U) (aD R)) :=
 C r U _ hr ⟨λns j e hj a aa hk A=>aq.mk (O.ok ns j e hj a aa hk A),O.bad⟩
def Ej(hi:i<=X.L.length):Ct X 108 i (jh X.L X.E i):=by
 intro r U R hr O;refine VU ?_;dsimp only[VT,ae,ak,vw,aQ,ah,cw,cG,cn];refine jq hr hi λk aK S=>?_;simp only[bL,ad,aP,cK];intro j hj;unfold jh at O;refine uw S (λh1 aV S=>?_) λh1 aV S=>?_
 . rw[if_pos h1]at O;simp only[aL];exact D0 S λbG S=>hj _ _ (fX S O)
 rw[if_neg (by rw[h1];simp)]at O;simp only[aG];refine uw S (λh2 aV S=>?_) λh2 aV S=>?_
 . rw[if_pos h2]at O;simp only[aL];exact D0 S λbG S=>hj _ _ (fX S O)
 rw[if_neg (by rw[h2];simp)]at O;simp only[aG];refine uw S (λh3 aV S=>?_) λh3 aV S=>?_
 . rw[if_pos h3]at O;simp only[aL];exact ry S O λx bG S O=>EE S λcI S=>D0 S λdc S=>hj _ _ (fX S O)
 rw[if_neg (by rw[h3];simp)]at O;simp only[aG];exact eJ S O λbG S O=>ry S O λx bG S O=>D0 S λdc S=>hj _ _ (fX S O)
def Pj(hi:i<=X.L.length):Ct X 278 i (mY X.L X.E i):=by
 intro r U R hr O;refine ZF ?_;dsimp only[ZE,ae,ah,cw,cG,cn];refine jq hr hi λk aK S=>?_;simp only[bL,ad,aP,cK];exact px S O λx bG S O=>py S λdc S=>fX S O
def Qd{f:Nat}(hi:i<=X.L.length)(hf:X.L.length<f):Ct X 104 i (oX X.L X.E f i):=by
 intro r U R hr O;refine VO ?_;dsimp only[VN,ae,ak,ah,fW,aC];refine NO hr hi λb aK hb A1=>?_
 replace O:=O.jW A1
 simp only[db,ad];unfold oX at O;cases b with
 | false =>
   simp only[dS,aL];rw[if_neg (by rw[hb];simp)]at O;exact EF (Ej hi) A1.box O
 | true =>
   simp only[cL,aG];rw[if_pos hb]at O;refine jq A1.box hi λk aV S=>?_;have O':Out X r aK R ((bR X.L dM i).bind λ_ j=>(mF X.L (jh X.L X.E) f j).bind λa j=>(bR X.L dE j).bind λ_ j=>(bR X.L gn j).bind λ_ j=>(jh X.L X.E j).bind λb j=>.ok (node 8 [] 0 0 (cT X.L X.E i) (a++b)) j):=by
    rw[show bR X.L dM i=.ok () (i+1) by simp[bR,hb]];exact O
   refine eJ S O' λbG S O=>?_;refine It (by kernel_rfl) (λi hi=>Ej hi) (λi hi=>qT hi) d6 d6 S O λns j cI hj eF S O=>?_;refine eJ S O λdc S O=>eJ S O λjg S O=>?_;exact ko S (Ej S.hi) (qT S.hi) O λuh j2 gZ p7 Br S O=>fX S O
def abz{f:Nat}(hi:i<=X.L.length)(hf:X.L.length<f):Ct X 107 i (jM X.L X.E f i):=by
 intro r U R hr O;refine VS ?_;dsimp only[VR,ae,ah,cw,cG,cn,aC];refine jq hr hi λk aK S=>?_;simp only[bL,ad,aP,cK];refine px S O λx aV S O=>py S λbG S=>eJ S O λcI S O=>?_;exact ko S (Qd S.hi hf) (yg S.hi hf) O λns j dc hj eF S O=>fX S O
def aeN{f:Nat}(hi:i<=X.L.length)(hf:X.L.length<f)(hg:∀j,j<=X.L.length->i<j->Ct X 109 j (iE X.L X.E f j)/\Gd X.L.length (j+1) j (iE X.L X.E f j)):Ct X 55 i (lH X.L X.E f i):=by
 intro r U R hr O;refine ab9 ?_;dsimp only[adE,ae,ak,pZ,aQ,ah,cw,cG,fW,cn,aC];unfold lH at O;refine jq hr hi λk aK S=>?_;simp only[bL,ad,aP,cK];refine uw S (λh1 aV S=>?_) λh1 aV S=>?_
 . rw[if_pos h1]at O;simp only[aL];refine px S O λx aV S O=>py S λbG S=>eJ S O λcI S O=>?_;refine ko S (Qd S.hi hf) (yg S.hi hf) O λns j dc hj eF S O=>?_;exact eJ S O λjg S O=>fX S O
 rw[if_neg (by rw[h1];simp)]at O;simp only[aG];refine EE S λbG S=>?_;intro j hj;have rest:∀(kk:Int)(p:Nat)(aa:St),i<p->Sk X U r k p kk [] 0 0 (cT X.L X.E i) [] aa->Out X r U R ((fO X.L p).bind λx j=>(bR X.L dM j).bind λ_ j =>
  (if bP X.L j dE=true then .ok [] j else mF X.L (jM X.L X.E f) f j).bind λa j =>
  (bR X.L dE j).bind λ_ j=>(bR X.L ef j).bind λ_ j=>(jh X.L X.E j).bind λb j=>(bR X.L gH j).bind λ_ j=>(iE X.L X.E f j).bind λc j =>
  (bR X.L dF j).bind λ_ j=>.ok (node kk x 0 0 (cT X.L X.E i) (a++b++c)) j)->j (.box r 0) (.box k 0) aa:=by
  intro kk p aa hp S O;refine hj _ _ _ ?_;refine px S O λx aV S O=>?_;simp only[bL,ad,aP,cK];refine py S λbG S=>eJ S O λcI S O=>?_;intro j1 yS;have B3:∀(ns:List Nd)(q:Nat)(aa:St),i<q->Sk X U r k q kk x 0 0 (cT X.L X.E i) ns aa->Out X r U R ((bR X.L dE q).bind λ_ j=>(bR X.L ef j).bind λ_ j=>(jh X.L X.E j).bind λb j=>(bR X.L gH j).bind λ_ j=>(iE X.L X.E f j).bind λc j =>
   (bR X.L dF j).bind λ_ j=>.ok (node kk x 0 0 (cT X.L X.E i) (ns++b++c)) j)->j1 (.box r 0) (.box k 0) aa:=by
   intro ns q aa hq S O;refine yS _ _ _ ?_;refine eJ S O λcI S O=>eJ S O λcI S O=>?_;refine ko S (Ej S.hi) (qT S.hi) O λuh j2 gZ p7 Br S O=>?_;refine eJ S O λcI S O=>?_;obtain⟨g1,g2⟩:=hg _ S.hi d6;exact ko S g1 g2 O λuh j2 gZ p7 Br S O=>eJ S O λcI S O=>fX S O
  refine ZR S λb dc hb S=>?_;simp only[db,ad];cases b with
  | false =>
    simp only[dS,aL];rw[if_neg (by rw[hb];simp)]at O;have lg:=X.small;refine It (by kernel_rfl) (λi hi=>abz hi hf) (λi hi=>DE hi hf) d6 d6 S O λns j cI hj eF S O=>?_;exact B3 _ _ _ d6 S O
  | true =>
    simp only[cL,aG];rw[if_pos hb]at O;exact B3 _ _ _ d6 S O
 refine uw S (λh2 cI S=>?_) λh2 cI S=>?_
 . rw[if_pos h2]at O;simp only[aL];exact EE S λdc S=>rest _ _ _ d6 S O
 . rw[if_neg (by rw[h2];simp)]at O;simp only[aG];have e:∀(p:PR Unit)(q:Int->Nat->PR (List Nd)),(p.bind λ_ j=>PR.ok (4:Int) j).bind q=p.bind λ_ j=>q 4 j:=λp q=>by cases p<;>rfl
   rw[e]at O;exact eJ S O λdc S O=>rest _ _ _ d6 S O
end
def RL{c:nj}(o:Option Tk)(l:List aT)(hn:l.length<=100000)(hc:closed (.vec l.length c (l.map .str))):Pure K 121 [.agg (uJ o),.vec l.length c (l.map .str)] (.bool (zN o l)):=by
 refine Pure.of ?_ rfl (λU=>rfl) λR hR=>FM o l hn λaa _=>hR aa;have:closed (.agg (uJ o)):=by cases o<;>rfl
 simp only[cW,this,hc,Bool.and_self]
variable {fu:Nat}
section
variable {X:Rx}{aj U:St}{r k i:Nat}{kind:Int}{text:aT}{n m at_:Int}{l:List Nd}{R:bi}{K':am}{Kp:am}{w:aT}{f:FuncId}
def kW(X:Rx)(f i:Nat):Prop:=∀j,j<=X.L.length->i<j->Ct X 169 j (cM X.L X.E f j)/\Gd X.L.length (j+1) j (cM X.L X.E f j)
def HT(X:Rx)(f:Nat)(fin:List Nd->Nat->PR (List Nd)):List aT->List Nd->Nat->PR (List Nd)
 | [],acc,i=>fin acc i
 | w::ws,acc,i=>(bR X.L w i).bind λ_ j=>(cM X.L X.E f j).bind λa j=>HT X f fin ws (acc++a) j
def NQ{i0:Nat}(hF:kW X fu i0){fin:List Nd->Nat->PR (List Nd)}(ws:List aT)(hw:ws.length<=10)(sE:i0<=i)(S:Sk X aj r k i kind text n m at_ l U){ac:List Nd}(hac:ac=l)(O:Out X r aj R (HT X fu fin ws ac i))
 (h:∀acc j aa,Sk X aj r k j kind text n m at_ acc aa->Out X r aj R (fin acc j)->aq R (.box k 0) aa) :
 nh 5 [.box r 0,.box k 0,.vec ws.length .full (ws.map .str),bv ws.length,bv 0] U λlp v0 v3 Cd Gj v10 U =>
 (bU .lss (BT.mk false false false none false) false v10 Gj).wp K U (λv11 U =>
 cX v11 (
  (bJ (some (9,1)) none Cd v10).wp K U (λv12 U =>
  (bj (some (false,1)) v12 U).wp K U (λsb U =>
  ag K 102 [v0,sb] U (bD (λA7 U =>
  ag K 169 [v0] U (bD (λrB U =>
  (ai (some (87,1)) (some [AV.bE]) 1 false [(0,rB)]).wp K U (λv20 U =>
  ag K 103 [v3,v20] U (bD (λv21 U =>
  (bU .add (BT.mk false false false none false) true v10 (bv 1)).wp K U (λtO U =>
  lp v0 v3 Cd Gj tO U) (aD R)) (aD R))) (aD R)) (aD R))) (aD R))) (aD R)) (aD R)) (
  aq R v3 U)) (aD R):=by
 subst hac;refine⟨λmm v0 v3 v8 v9 v10 aa=>∃t acc j,t<=ws.length/\mm=ws.length-t/\v0=.box r 0/\v3=.box k 0/\v8=.vec ws.length .full (ws.map .str)/\v9=bv ws.length/\v10=bv (t:Nat)/\i0<=j/\Sk X aj r k j kind text n m at_ acc aa/\Out X r aj R (HT X fu fin (ws.drop t) acc j),
  ⟨_,0,_,_,d6,rfl,rfl,rfl,rfl,rfl,rfl,sE,S,O⟩,?_⟩
 rintro mm v0 v3 v8 v9 v10 aK ⟨t,acc,j,ht,rfl,rfl,rfl,rfl,rfl,rfl,eF,S,O⟩;simp only[aY,ad,bp];refine⟨λaA=>?_,λgL=>?_⟩
 . have aA:t<ws.length:=by omega
   have hd:(ws.map AV.str).drop (t*1)=.str ws[t]::(ws.map AV.str).drop (t+1):=by
    rw[Nat.mul_one,gI (by simpa using aA)];simp
   have tF:ws.drop t=ws[t]::ws.drop (t+1):=gI aA;rw[tF]at O;simp only[sv,ez,hd,ln,bI];refine⟨d6,?_⟩;unfold HT at O;refine eJ S O λaV S O=>?_;obtain⟨g1,g2⟩:=hF _ S.hi d6;refine ko S g1 g2 O λns j2 bG p7 Br S O=>?_;simp only[cF];refine⟨aX d6 d6,ws.length-(t+1),d6,t+1,_,_,aA,rfl,rfl,rfl,rfl,rfl,rfl,d6,S,O⟩
 . have:t=ws.length:=by omega
   subst this;rw[List.drop_length]at O;exact h _ _ _ S O
def Tp(hi:i<=X.L.length)(hF:kW X fu i):Ct X 158 i ((bR X.L uy i).bind λ_ j=>(cM X.L X.E fu j).bind λc j=>(bR X.L qi j).bind λ_ j=>(cM X.L X.E fu j).bind λa j=>(bR X.L gh j).bind λ_ j=>(cM X.L X.E fu j).bind λb j=>.ok (node 10 [] 0 0 (cT X.L X.E i) (c++a++b)) j):=by
 intro r U R hr O;refine Xp ?_;dsimp only[Xo,di,ae,ak,oR,aQ,ah,ar,ca,cJ,aC];refine jq hr hi λk aK S=>?_;rw[fN];refine⟨d6,?_⟩;rw[eg (o:=0) (s:=1) rfl];refine⟨⟨rfl,rfl,by simp[bZ]⟩,?_⟩;rw[eg (o:=1) (s:=1) rfl];refine⟨⟨rfl,rfl,by simp[bZ,ax]⟩,?_⟩;rw[eg (o:=2) (s:=1) rfl];refine⟨⟨rfl,rfl,by simp[bZ,ax]⟩,?_⟩;rw[gS];refine⟨rfl,?_⟩;simp only[u1,ad];exact NQ (fin:=λacc j=>.ok (node 10 [] 0 0 (cT X.L X.E i) acc) j) hF [uy,qi,gh] d8 (da _) S rfl O λacc j aa S O=>fX S O
def aeV(hi:i<=X.L.length)(hF:kW X fu i):Ct X 159 i ((bR X.L lU i).bind λ_ j=>(cM X.L X.E fu j).bind λa j=>(bR X.L vr j).bind λ_ j=>(cM X.L X.E fu j).bind λb j=>.ok (node 11 [] 0 0 (cT X.L X.E i) (a++b)) j):=by
 intro r U R hr O;refine Xr ?_;dsimp only[Xq,di,ae,ak,oR,aQ,ah,ar,ca,cJ,aC];refine jq hr hi λk aK S=>?_;rw[fN];refine⟨d6,?_⟩;rw[eg (o:=0) (s:=1) rfl];refine⟨⟨rfl,rfl,by simp[bZ]⟩,?_⟩;rw[eg (o:=1) (s:=1) rfl];refine⟨⟨rfl,rfl,by simp[bZ,ax]⟩,?_⟩;rw[gS];refine⟨rfl,?_⟩;simp only[u1,ad];exact NQ (fin:=λacc j=>.ok (node 11 [] 0 0 (cT X.L X.E i) acc) j) hF [lU,vr] d8 (da _) S rfl O λacc j aa S O=>fX S O
def oP{i0:Nat}{q:List Nd->Nat->PR (List Nd)}(hF:kW X fu i0)(h0:i0<i)(S:Sk X aj r k i kind text n m at_ l U)(O:Out X r aj R ((cM X.L X.E fu i).bind q))
 (h:∀ns j aa,j<=X.L.length->i<j->Sk X aj r k j kind text n m at_ (l++ns) aa->Out X r aj R (q ns j)->K' (.box k 0) aa) :
 ag K 169 [.box r 0] U (bD (λv U=>(ai (some (87,1)) (some [AV.bE]) 1 false [(0,v)]).wp K U (λv U=>ag K 103 [.box k 0,v] U (bD K' (aD R))) (aD R)) (aD R)) :=
 ko S (hF _ S.hi h0).1 (hF _ S.hi h0).2 O h
def aeu(hi:i<=X.L.length)(hF:kW X fu i):Ct X 160 i ((bR X.L qQ i).bind λ_ j=>(fO X.L j).bind λx j=>(bR X.L ef j).bind λ_ j=>(js X.L j).bind λn j=>(bR X.L bY j).bind λ_ j=>(js X.L j).bind λm j=>(bR X.L jQ j).bind λ_ j=>(cM X.L X.E fu j).bind λa j=>.ok (node 12 x n m (cT X.L X.E i) a) j):=by
 intro r U R hr O;refine Xt ?_;dsimp only[Xs,ae,ah,cw,cG,cn,aC];refine jq hr hi λk aK S=>?_;simp only[bL,ad,aP,cK];refine eJ S O λ_ S O=>px S O λx _ S O=>py S λ_ S=>eJ S O λ_ S O=>ry S O λ_ _ S O=>D0 S λ_ S=>eJ S O λ_ S O=>ry S O λ_ _ S O=>akz S λ_ S=>eJ S O λ_ S O=>?_;exact oP hF d6 S O λns j dc hj eF S O=>fX S O
def abi(hi:i<=X.L.length)(hF:kW X fu i):Ct X 161 i ((bR X.L mJ i).bind λ_ j=>(fO X.L j).bind λx j=>(bR X.L jQ j).bind λ_ j=>(cM X.L X.E fu j).bind λa j=>(bR X.L gh j).bind λ_ j=>(cM X.L X.E fu j).bind λb j=>.ok (node 13 x 0 0 (cT X.L X.E i) (a++b)) j):=by
 intro r U R hr O;refine Xv ?_;dsimp only[Xu,ae,ah,cw,cG,cn,aC];refine jq hr hi λk aK S=>?_;simp only[bL,ad,aP,cK];refine eJ S O λ_ S O=>px S O λx _ S O=>py S λ_ S=>eJ S O λ_ S O=>?_;refine oP hF d6 S O λns j dc hj eF S O=>eJ S O λ_ S O=>?_;exact oP hF d6 S O λns j dc hj eF S O=>fX S O
def Tq(hi:i<=X.L.length)(hF:kW X fu i):Ct X 162 i ((bR X.L jz i).bind λ_ j=>(cM X.L X.E fu j).bind λa j=>(bR X.L gh j).bind λ_ j=>(cM X.L X.E fu j).bind λb j=>.ok (node 15 [] 0 0 (cT X.L X.E i) (a++b)) j):=by
 intro r U R hr O;refine Xx ?_;dsimp only[Xw,ae,ah,aC];refine jq hr hi λk aK S=>?_;refine eJ S O λ_ S O=>?_;refine oP hF d6 S O λns j dc hj eF S O=>eJ S O λ_ S O=>?_;exact oP hF d6 S O λns j dc hj eF S O=>fX S O
def U0(hi:i<=X.L.length)(hF:kW X fu i):Ct X 163 i ((bR X.L jR i).bind λ_ j=>(fO X.L j).bind λx j=>(bR X.L bY j).bind λ_ j=>(js X.L j).bind λn j=>(bR X.L jQ j).bind λ_ j=>(cM X.L X.E fu j).bind λa j=>.ok (node 14 x n 0 (cT X.L X.E i) a) j):=by
 intro r U R hr O;refine Xz ?_;dsimp only[Xy,ae,ah,cw,cG,cn,aC];refine jq hr hi λk aK S=>?_;simp only[bL,ad,aP,cK];refine eJ S O λ_ S O=>px S O λx _ S O=>py S λ_ S=>eJ S O λ_ S O=>ry S O λ_ _ S O=>D0 S λ_ S=>eJ S O λ_ S O=>?_;exact oP hF d6 S O λns j dc hj eF S O=>fX S O
end
def nf:List (aT×Nat):=[(jz,162),(uy,158),(mJ,161),(qQ,160),(jR,163),(lU,159)]
def Rk:uR=.iK (nf.map λp=>.str p.1) (nf.map λp=>.func (.func p.2) [] []):=rfl
def y8(s:aT)(z:AV):∀l:List (aT×AV),pM .s (.str s) z true (l.map λp=>.str p.1) (l.map λp=>p.2)=.val (.az [match l.find? (λp=>p.1=s) with|some p=>p.2|none=>z,.bool (l.find? (λp=>p.1=s)).isSome])
 | []=>rfl
 | p::l=>by
   simp only[fh,pM,jZ,List.find?_cons]
   by_cases h:s=p.1
   . subst h;simp
   . have h':¬ p.1=s:=λe=>h e.symm;simp only[h',cZ];rw[show (s==p.1)=false by simp[h]];simpa using y8 s z l
def Rj(s:aT)(U:St):fK (some (.s,186)) (some AV.eY) uR (.str s) true U=.val (.az [match nf.find? (λp=>p.1=s) with|some p=>.func (.func p.2) [] []|none=>.eY,.bool (nf.find? (λp=>p.1=s)).isSome]):=by
 rw[Rk];have:=y8 s .eY (nf.map λp=>(p.1,AV.func (.func p.2) [] []));simp only[fK,mM,sR];rw[List.map_map,List.map_map]at this;rw[show (nf.map λp=>AV.str p.1)=List.map ((λp:aT×AV=>AV.str p.1) ∘ λp=>(p.1,AV.func (.func p.2) [] [])) nf from rfl,show (nf.map λp=>AV.func (.func p.2) [] [])=List.map ((λp:aT×AV=>p.2) ∘ λp=>(p.1,AV.func (.func p.2) [] [])) nf from rfl,this];congr 2;rw[List.find?_map];have e:((λp:aT×AV=>decide (p.1=s)) ∘ λp:aT×Nat=>(p.1,AV.func (.func p.2) [] []))=λp=>decide (p.1=s):=rfl;rw[e];cases nf.find? λp=>decide (p.1=s)<;>rfl
def Oh(o:Option Tk):Pure K 61 [.agg (uJ o)] (.bool (zN o [eD,jc,eW])):=by
 refine Pure.of ?_ rfl (λU=>rfl) λR hR=>?_
 . cases o<;>rfl
 refine acg ?_;have ht:(uJ o).length=3:=by cases o<;>rfl
 dsimp only[adK,ae,ah,dj,dI,aC];rw[fg rfl];intro b hb;rw[show al (.agg (uJ o))=uJ o from rfl,mK aH];refine⟨by simp[ht],?_⟩;rw[fN];refine⟨d6,?_⟩;rw[eg (o:=0) (s:=1) rfl];refine⟨⟨rfl,rfl,by simp[bZ]⟩,?_⟩;rw[eg (o:=1) (s:=1) rfl];refine⟨⟨rfl,rfl,by simp[bZ,ax]⟩,?_⟩;rw[eg (o:=2) (s:=1) rfl];refine⟨⟨rfl,rfl,by simp[bZ,ax]⟩,?_⟩;rw[gS];refine⟨rfl,?_⟩;rw[eR,pO d6];exact FM (c:=.full) o [eD,jc,eW] d8 λaa _=>aq.mk (hR aa)
def ae3(L:List Tk)(i:Nat):zN L[i]? [eD,jc,eW]=zH L i:=by
 unfold zN zH bP;cases h:L[i]? with
 | none=>rfl
 | some t =>
   simp only[h];cases hk:(t.k==3||t.k==4) with
   | false=>simp
   | true =>
     simp only[Bool.true_and];rw[oN];simp[or_assoc]
section
variable {X:Rx}{aj U:St}{r k i:Nat}{R:bi}{K':am}{Kp:am}{f:FuncId}
def ahz{lV:FuncId}(he:gP K.P lV){c:List AV}:(kQ K.P (.func (.func lV) [] []) [.box r 0]).wp K U K' Kp=ag K lV [.box r 0] U (bD K' Kp):=by
 simp[kQ,he]
def Co(X:Rx)(i lev:Nat)(p:PR (List Nd)):Prop:=∀(r:Nat)(U:St)(R:bi),U.box r=some (rd X i)->Out X r U R p->ag K 219 [.box r 0,bv (lev:Nat)] U R
def aeC{s:aT}{p:aT×Nat}(h:nf.find? (λp=>p.1=s)=some p):p∈nf/\p.1=s:=⟨List.mem_of_find?_eq_some h,by simpa using List.find?_some h⟩
def aaJ(hi:i<=X.L.length)(hF:kW X fu i)(hO:Co X i 2 (fZ X.L X.E fu 2 i)):Ct X 169 i (cM X.L X.E (fu+1) i):=by
 intro r U R hr O;refine XL ?_;dsimp only[XK,fR,eh,lM,cU,ql,ae,bg,ak,pZ,aQ,ah,ar,cw,cG,bX,cn,aC,dr,dA,gO,jl,zqs,HW];refine tn hr hi 0 d6 λaK e1=>?_;rw[Nat.add_zero];obtain⟨kd,s,a,e,hm⟩:=zm X.L[i]?;rw[e];simp only[bh,my];intro b hb;have hr1:=e1.bq hr;have e2:=e1.new (x:=.box [co 0,AV.str [],bv 0]) hb;rw[show NV.at b .box=AV.box b 0 from rfl,cV aH];refine⟨⟨rfl,rfl,d8⟩,?_⟩;have e3:=e2.set (x:=.box (ax [co 0,AV.str [],bv 0] 0 (al (.agg [co kd,.str s,bv a])))) (e1.fresh hb.1);generalize qK:(aK.new b (.box [co 0,AV.str [],bv 0])).set b (.box (ax [co 0,AV.str [],bv 0] 0 (al (.agg [co kd,.str s,bv a]))))=bG at e3 ⊢;have kF:bG.box b=some [co kd,.str s,bv a]:=by rw[<-qK,aZ];rfl
 have Cv:=e3.bq hr;have A3:gK r (rd X i) U bG:=.mV hr e3
 replace O:=O.jW A3
 have ji:∀t,X.L[i]?=some t->s=t.s/\kd=t.k:=λt ht=>by
  rw[ht]at e;simp only[uJ,jD,List.cons.injEq,AV.str.injEq,AV.int.injEq,true_and]at e;exact⟨e.2.1.symm,e.1.symm⟩
 simp only[bL,ao,aP,nM Cv,rd,List.drop,gg,cK,nM kF,Rj,bN,aF,aw,ma];have hkw:∀w∈nf.map (·.1),bP X.L i w=true->kd=3/\s=w:=λw hw h=>by
  have:∀w∈nf.map (·.1),w∈j0:=by decide
  obtain⟨t,ht,hk,hs⟩:=aeI X.ok (this w hw) h;obtain⟨h1,h2⟩:=ji t ht;exact⟨d6,h1.trans hs⟩
 have fin:(¬ (kd=3/\s∈nf.map (·.1)))->(∀w∈nf.map (·.1),bP X.L i w=false):=λh w hw=>by
  cases hx:bP X.L i w with
  | false=>rfl
  | true=>obtain⟨h1,h2⟩:=hkw w hw hx;exact absurd ⟨h1,h2▸hw⟩ h
 by_cases hc:kd=3/\s∈nf.map (·.1)
 . obtain⟨h3,hs⟩:=hc;obtain⟨t,ht,hk,ua⟩:=(hm 3 d6).1 h3;subst h3;have AB:bP X.L i s:=P6 ht (.inl hk) ua;have cD:∀w∈nf.map (·.1),w≠s->¬ (bP X.L i w):=λw hw hn h=>hn (hkw w hw h).2.symm;have key:∃lV,nf.find? (λp=>p.1=s)=some (s,lV)/\gP K.P lV/\∃p,Ct X lV i p/\cM X.L X.E (fu+1) i=p:=by
    have hnd:bR X.L s i=.ok () (i+1):=by simp[bR,AB]
    have fj:s∈nf.map (·.1):=hs;simp only[nf,fh,mq,dy,List.not_mem_nil,or_false]at hs;rcases hs with rfl|rfl|rfl|rfl|rfl|rfl
    . exact⟨162,rfl,by kernel_rfl,_,Tq hi hF,by rw[cM,if_neg (cD _ d7 d7),if_neg (cD _ d7 d7),if_neg (cD _ d7 d7),if_neg (cD _ d7 d7),if_pos AB,hnd];rfl⟩
    . exact⟨158,rfl,by kernel_rfl,_,Tp hi hF,by rw[cM,if_pos AB,hnd];rfl⟩
    . exact⟨161,rfl,by kernel_rfl,_,abi hi hF,by rw[cM,if_neg (cD _ d7 d7),if_neg (cD _ d7 d7),if_neg (cD _ d7 d7),if_pos AB,hnd];rfl⟩
    . exact⟨160,rfl,by kernel_rfl,_,aeu hi hF,by rw[cM,if_neg (cD _ d7 d7),if_neg (cD _ d7 d7),if_pos AB,hnd];rfl⟩
    . exact⟨163,rfl,by kernel_rfl,_,U0 hi hF,by rw[cM,if_neg (cD _ d7 d7),if_neg (cD _ d7 d7),if_neg (cD _ d7 d7),if_neg (cD _ d7 d7),if_neg (cD _ d7 d7),if_pos AB,hnd];rfl⟩
    . exact⟨159,rfl,by kernel_rfl,_,aeV hi hF,by rw[cM,if_neg (cD _ d7 d7),if_pos AB,hnd];rfl⟩
   obtain⟨lV,h1,h2,p,h3,h4⟩:=key;rw[h1];simp only[Option.isSome_some,eG,bO,ao,iI,nM kF,List.drop,gg,aN,cC,av,if_true,ad,aL];rw[ahz h2 (c:=[])];rw[h4]at O;exact EF h3 Cv O
 . have hw:=fin hc;have hf:∀w∈nf.map (·.1),¬ (bP X.L i w):=λw h=>by rw[hw w h];simp
   rw[cM,if_neg (hf _ d7),if_neg (hf _ d7),if_neg (hf _ d7),if_neg (hf _ d7),if_neg (hf _ d7),if_neg (hf _ d7)]at O;have ajk:∀(c:Option (aT×Nat))(A B:Prop),nf.find? (λp=>p.1=s)=c->(c.isSome->kd≠3):=λc A B h1 h2 h3=>by
    cases c with
    | none=>cases h2
    | some p=>exact hc ⟨h3,by obtain⟨k1,k2⟩:=aeC h1;exact List.mem_map.2 ⟨p,k1,k2⟩⟩
   have sel:∀(V:AV)(A B:Prop),B->cX ci A B:=λ_ _ _ hB=>by rw[aG];exact hB
   have rest:rI 2
    (λv0 Fw U =>
      cX Fw (
    ag K 99 [v0,(co 16)] U (bD (λKA U =>
    ag K 101 [v0] U (bD (λZ0 U =>
    (jf KA).wp K U (λHL U =>
    (bu (some 0) HL).wp K U (λzq U =>
    (bu (some 1) zq).wp K U (λZ1 U =>
    (dD (some (false,1)) Z1 Z0 U).wp K U (λ_ U =>
    ag K 102 [v0,(AV.str bY)] U (bD (λv46 U =>
    ag K 169 [v0] U (bD (λv49 U =>
    (ai (some (87,1)) (some [AV.bE]) 1 false [(0,v49)]).wp K U (λux U =>
    ag K 103 [KA,ux] U (bD (λv51 U =>
    aq R v51 U) (aD R))) (aD R)) (aD R))) (aD R))) (aD R)) (aD R)) (aD R)) (aD R)) (aD R))) (aD R))) (
    ag K 219 [v0,(bv 2)] U (bD (λv53 U =>
    aq R v53 U) (aD R)))) (λj =>
     aW.wp K bG
      (λsd U =>
        aW.wp K U
         (λv30 U =>
           aI K (cq v30 true) (aW.val (AV.box r 0)) λyz =>
            cX (cq v30 true)
             (ag K 167 [yz,AV.int IntKind.i64 1] U
               (bD
                 (λzp U =>
                   aI K (cq v30 true)
                    (ai (some (9,1)) (some [AV.str []]) 1 false [(0,AV.str bY)]) λHK =>
                    aI K (cq v30 true) (aW.enter 121 [zp,HK]) λN5 =>
                     aW.wp K U (λSQ U=>j (AV.box r 0) SQ U) (aD R)
                      (fP v30 N5 ci))
                 (aD R)))
             (aI K (cq v30 true)
               (ai (some (9,1)) (some [AV.str []]) 1 false [(0,AV.str bY)]) λaiV =>
               aI K (cq v30 true) (aW.enter 121 [AV.az [],aiV]) λaiW =>
                aW.wp K U (λSQ U=>j (AV.box r 0) SQ U) (aD R)
                 (fP v30 aiW ci)))
         (aD R)
         (bU BinOp.eql { b:=false,i:=false,p:=false,f:=none,s:=false } true sd (AV.int IntKind.u8 1)))
      (aD R) (bj (some (false,1)) (AV.box b 0) bG)):=by
    intro j hj;have yes:ij X.L i 1->bP X.L (i+1) bY->∀cI,gK r (rd X i) bG cI->j (.box r 0) ce cI:=λg1 g2 cI A4=>by
     refine hj _ _ _ ?_;rw[if_pos ⟨g1,g2⟩]at O
     replace O:=O.jW A4
     rw[aL];refine jq A4.box hi λk dc S=>?_;simp only[bL,ad,aP,cK];refine px S O λx _ S O=>py S λ_ S=>eJ S O λ_ S O=>?_;exact oP hF d6 S O λns j dc hj eF S O=>fX S O
    have no:¬ (ij X.L i 1/\bP X.L (i+1) bY)->∀cI,gK r (rd X i) bG cI->j (.box r 0) ci cI:=λg cI A4=>by
     refine hj _ _ _ ?_;rw[if_neg g]at O
     replace O:=O.jW A4
     rw[aG];exact hO r cI _ A4.box ⟨λns j e hj a aa hk A=>aq.mk (O.ok ns j e hj a aa hk A),O.bad⟩
    have ox:ij X.L i 1=decide (kd=1):=by
     unfold ij;cases ht:X.L[i]? with
     | none=>rw[ht]at e;simp only[uJ,List.cons.injEq,AV.int.injEq,true_and]at e;simp[<-e.1]
     | some t=>obtain⟨_,h2⟩:=ji t ht;rw[h2];rw[oN];simp;omega
    rw[gJ kF];simp only[List.drop,bI,aN,ad,aF]
    by_cases h1:kd=1
    . simp only[h1,cC,eG,aw,bO,ao,iI,aL];refine tn Cv hi 1 d6 λcI e4=>?_;simp only[bh];rw[th];refine⟨d6,?_⟩;rw[pk (o:=0) (s:=1) rfl];refine⟨⟨rfl,rfl,by simp[bZ]⟩,?_⟩;rw[va];refine⟨rfl,_,RL (c:=.full) (X.L[i+1]?) [bY] d8 rfl,?_⟩;rw[Ey];simp only[av,if_true,ad];cases PU:bP X.L (i+1) bY with
      | true=>exact yes (by rw[ox];simp[h1]) PU _ (.mV Cv e4)
      | false=>exact no (by rw[PU];simp) _ (.mV Cv e4)
    . have C7:(decide (kd=1)==true)=false:=by simp[h1]
      simp only[C7,aw,bB,aG,h1,cZ,av,bW,if_false,ad];simp only[beq_true,bB,aG];exact no (by rw[ox];simp[h1]) _ ⟨Cv,jT.refl _ _⟩
   cases wh:nf.find? (λp=>p.1=s) with
   | none =>
     simp only[Option.isSome_none,bB,show (false==true)=false from rfl,av,bW,if_false,ad,aG];exact rest
   | some p =>
     have h3:¬ kd=3:=ajk _ True True wh rfl;simp only[Option.isSome_some,eG,bO,ao,iI,nM kF,List.drop,gg,aN,h3,cZ,av,if_true,ad,aG];exact rest
end
def AO(lev:Nat):List (aT×Int) :=
 if lev=2 then [(wL,17)] else if lev=3 then [(sY,18)] else if lev=5 then [(pX,21),(gH,20)] else if lev=6 then [(pW,22),(oY,23)] else if lev=7 then [(qO,24)] else if lev=8 then [(su,25)] else []
def opM(lev:Nat):AV:=.iK ((AO lev).map λp=>.str p.1) ((AO lev).map λp=>co p.2)
def abu(lev:Nat)(h:lev=2\/lev=3\/lev=5\/lev=6\/lev=7\/lev=8)(U:St):fK (some (.i,185)) (some AV.lK) DD (bv (lev:Nat)) false U=.val (opM lev):=by
 rcases h with rfl|rfl|rfl|rfl|rfl|rfl<;>rfl
def abv(lev:Nat)(s:aT)(U:St):fK (some (.s,5)) (some (co 0)) (opM lev) (.str s) true U=.val (.az [co (match (AO lev).find? (λp=>p.1=s) with|some p=>p.2|none=>0),.bool ((AO lev).find? (λp=>p.1=s)).isSome]):=by
 have:=y8 s (co 0) ((AO lev).map λp=>(p.1,co p.2));rw[List.map_map,List.map_map,List.find?_map]at this;simp only[fK,mM,sR,opM];rw[show ((AO lev).map λp=>AV.str p.1)=List.map ((λp:aT×AV=>AV.str p.1) ∘ λp=>(p.1,co p.2)) (AO lev) from rfl,show ((AO lev).map λp=>co p.2)=List.map ((λp:aT×AV=>p.2) ∘ λp=>(p.1,co p.2)) (AO lev) from rfl,this];have e:((λp:aT×AV=>decide (p.1=s)) ∘ λp:aT×Int=>(p.1,co p.2))=λp=>decide (p.1=s):=rfl;rw[e];cases (AO lev).find? λp=>decide (p.1=s)<;>rfl
def Qn(L:List Tk)(lev i:Nat):mi L lev i=((AO lev).find? (λp=>p.1=vg L[i]?)).map (·.2):=by
 have hw:∀w:aT,w≠[]->bP L i w=decide (w=vg L[i]?):=λw h=>by rw[JM h];simp[eq_comm]
 unfold mi AO;rw[hw wL d7,hw sY d7,hw gH d7,hw pX d7,hw pW d7,hw oY d7,hw qO d7,hw su d7];generalize vg L[i]?=s
 repeat' split
 all_goals simp_all
 all_goals (subst_vars;rfl)
variable {a:AV}{ns:List Nd}
section
variable {X:Rx}{aj U:St}{r k i:Nat}{kind:Int}{text:aT}{n m at_:Int}{l:List Nd}{R:bi}{K':am}{Kp:am}
def QA(hr:U.box r=some (rd X i))(hi:i<=X.L.length)(h:∀aa,dt U aa->R (.ret (.str (vg X.L[i]?))) aa):ag K 253 [.box r 0] U R:=by
 refine Zt ?_;dsimp only[Zs,lN,jr,ae,bg,ak,ah,ar,bX,dr,dA];refine tn hr hi 0 d6 λaK e1=>?_;rw[Nat.add_zero];have sP:∃kd s a,uJ X.L[i]?=[co kd,.str s,bv a]/\vg X.L[i]?=if kd=3\/kd=4 then s else []:=by
  cases ht:X.L[i]? with
  | none=>exact⟨0,[],0,rfl,rfl⟩
  | some t =>
    refine⟨t.k,t.s,t.at_,rfl,?_⟩;have e3:((t.k:Int)=3)=(t.k=3):=by simp;omega
    have e4:((t.k:Int)=4)=(t.k=4):=by simp;omega
    simp only[vg,e3,e4]
 obtain⟨kd,s,a,e,hsg⟩:=sP;rw[e];rw[hsg]at h;simp only[bh,my];intro b hb;have e2:=e1.new (x:=.box [co 0,AV.str [],bv 0]) hb;rw[show NV.at b .box=AV.box b 0 from rfl,cV aH];refine⟨⟨rfl,rfl,d8⟩,?_⟩;have e3:=e2.set (x:=.box (ax [co 0,AV.str [],bv 0] 0 (al (.agg [co kd,.str s,bv a])))) (e1.fresh hb.1);generalize qK:(aK.new b (.box [co 0,AV.str [],bv 0])).set b (.box (ax [co 0,AV.str [],bv 0] 0 (al (.agg [co kd,.str s,bv a]))))=bG at e3 ⊢;have kF:bG.box b=some [co kd,.str s,bv a]:=by rw[<-qK,aZ];rfl
 simp only[aP,ad,gJ kF,List.drop,bI,cK,aN,aF,aw,ma,bO]
 by_cases h3:kd=3
 . subst h3;simp[gJ kF,bI];exact aq.mk (h _ e3)
 . by_cases h4:kd=4
   . subst h4;simp[gJ kF,nM kF,bI];exact aq.mk (h _ e3)
   . simp[gJ kF,nM kF,bI,h3,h4];refine aq.mk ?_;have:=h _ e3;rw[if_neg d6]at this;exact this
def ZQ(S:Sk X aj r k i kind text n m at_ l U)(aA:i<X.L.length){bt:BT}{lit:Bool}(h:∀aa,Sk X aj r k (i+1) kind text n m at_ l aa->K' (.az []) aa) :
 (bj (some (false,1)) (.box r 1) U).wp K U (λv U=>(bU .add bt lit v (bv 1)).wp K U (λv U=>(dD (some (false,1)) (.box r 1) v U).wp K U K' Kp) Kp) Kp:=by
 have hs:=X.small;have hr:=S.A.box;simp only[gJ hr,rd,List.drop,bI,cF];refine⟨aX d6 d6,?_⟩;rw[cV hr];refine⟨⟨rfl,rfl,by simp[rd]⟩,h _ (S.jW (j:=i+1) ⟨?_,(jT.refl r U).set (.inr rfl)⟩ aA d6)⟩;rw[aZ];simp[ax,rd]
def fH.ne_nil:∀{b:Bool}{ks:List AV}{l:List Nd},fH b ks l->b=true->l=[]->ks=[]:=by
 have h1:∀{b:Bool}{ks:List AV}{l:List Nd},fH b ks l->b=false->l≠[]:=λh e=>by
  cases h with
  | mk _ _=>simp[node]
  | nil=>cases e
  | cons _ _=>cases e
 intro b ks l h e hl;cases h with
 | mk _ _=>cases e
 | nil=>rfl
 | cons a c=>exact absurd (List.append_eq_nil_iff.1 hl).1 (h1 a rfl)
def fH.dC(hk:fH false [a] ns):a.dC/\al a=[a]:=by
 generalize hb:false=b at hk;generalize hl:[a]=la at hk;cases hk with
 | mk _ _=>cases hl;exact⟨rfl,rfl⟩
 | nil=>cases hl
 | cons _ _=>cases hb
def NP(S:Sk X aj r k i kind text n m at_ [] U)(hk:fH false [a] ns)(h:∀a' aa,fH false [a'] (node kind text n m at_ ns)->gK r (rd X i) aj aa->K' a' aa) :
 (ai (some (87,1)) (some [AV.bE]) 1 false [(0,a)]).wp K U (λv U=>ag K 103 [.box k 0,v] U (bD K' Kp)) Kp:=by
 obtain⟨ks,h1,h2,h3⟩:=S.M;have:=h2.ne_nil rfl rfl;subst this;rw[fN];refine⟨d6,?_⟩;rw[eg (o:=0) (s:=1) rfl];refine⟨⟨hk.dC.1,by rw[hk.dC.2];rfl,by simp[bZ]⟩,?_⟩;rw[gS,hk.dC.2];refine⟨rfl,?_⟩;exact QU (l2:=[a]) h1 S.A d6 rfl d8 λaa M A=>M.done (h2.snoc hk) A λa' aa hk A=>h a' aa hk A
def acG{b:AV}{ms:List Nd}(S:Sk X aj r k i kind text n m at_ [] U)(hk:fH false [a] ns)(iN:fH false [b] ms)(h:∀a' aa,fH false [a'] (node kind text n m at_ (ns++ms))->gK r (rd X i) aj aa->K' a' aa) :
 (ai (some (87,1)) (some [AV.bE]) 2 false [(0,a),(1,b)]).wp K U (λv U=>ag K 103 [.box k 0,v] U (bD K' Kp)) Kp:=by
 obtain⟨ks,h1,h2,h3⟩:=S.M;have:=h2.ne_nil rfl rfl;subst this;rw[fN];refine⟨d6,?_⟩;rw[eg (o:=0) (s:=1) rfl];refine⟨⟨hk.dC.1,by rw[hk.dC.2];rfl,by simp[bZ]⟩,?_⟩;rw[hk.dC.2];rw[eg (o:=1) (s:=1) rfl];refine⟨⟨iN.dC.1,by rw[iN.dC.2];rfl,by simp[bZ,ax]⟩,?_⟩;rw[gS,iN.dC.2];refine⟨rfl,?_⟩;exact QU (l2:=[a,b]) h1 S.A d6 rfl d8 λaa M A=>M.done (by simpa using (h2.snoc hk).snoc iN) A λa' aa hk A=>h a' aa hk A
def Li(X:Rx)(fu:Nat):Prop:=∀f',f'<=fu->∀j lev,j<=X.L.length->2<=lev->lev<=9->40*(X.L.length-j)+(11-lev)<=f'->Co X j lev (fZ X.L X.E f' lev j)/\Gd X.L.length (j+1) j (fZ X.L X.E f' lev j)
def afe{lev:Nat}(hi:i<=X.L.length)(h2:2<=lev)(h9:lev<=9)(hf:40*(X.L.length-i)+(11-lev)<=fu+1)(hA:lev=9->Ct X 252 i (lX X.L X.E fu i))(hS:Li X fu):Co X i lev (fZ X.L X.E (fu+1) lev i):=by
 intro r U R hr O;refine YH ?_;dsimp only[YG,jN,ae,lD,bg,yH,ak,fU,aQ,ah,ar,cw,cG,fW,cn,aC,od,jl,oe,kN,HW];have hs:=X.small;simp only[aN,ad,bp];refine⟨λe9=>?_,λn9=>⟨λe4=>?_,λn4=>?_⟩⟩
 . have e9:lev=9:=by omega
   rw[fZ,if_pos e9]at O;exact EF (hA e9) hr O
 . have e4:lev=4:=by omega
   have n9:¬ lev=9:=by omega
   rw[fZ,if_neg n9,if_pos e4]at O;refine jq hr hi λk aK S=>?_;refine uw S (λhw aV S=>?_) λhw aV S=>?_
   . rw[if_pos hw]at O;simp only[aL];have aA:=de hw;obtain⟨g1,g2⟩:=hS fu (da _) (i+1) 4 aA d6 d6 d6;refine g1 r aV _ S.A.box ⟨λns j e hj a aa hk A=>?_,λj e aa A=>O.bad j (by rw[e];rfl) aa (S.A.trans A)⟩;rw[e]at g2 O;have eF:i+1<j:=g2.1;refine NP (S.jW A hj d6) hk λa' aa Av A'=>?_;exact aq.mk (O.ok _ _ rfl hj a' aa Av A')
   . rw[if_neg (by rw[hw];simp)]at O;simp only[aG,cF];refine⟨aX d6 d6,?_⟩;obtain⟨g1,g2⟩:=hS fu (da _) i 5 hi d6 d6 d6;subst e4;refine g1 r aV _ S.A.box ?_
     replace O:=O.jW S.A
     exact⟨λns j e hj a aa hk A=>aq.mk (O.ok ns j e hj a aa hk A),O.bad⟩
 . have n9:¬ lev=9:=by omega
   have n4:¬ lev=4:=by omega
   rw[fZ,if_neg n9,if_neg n4]at O;rw[cF];refine⟨aX d6 d6,?_⟩;obtain⟨g1,g2⟩:=hS fu (da _) i (lev+1) hi d6 d6 d6;rw[show ((lev:Nat):Int)+1=((lev+1:Nat):Int) by omega];refine g1 r U _ hr ⟨λns j e hj a aK hk A=>?_,λj e aa A=>O.bad j (by rw[e];rfl) aa A⟩;rw[e]at g2 O;have eF:i<j:=g2.1
   replace O:Out X r aK R (ky X.L X.E fu lev ns j):=Out.jW O A
   refine⟨λmm v0 v1 v6 aa=>∃left j f',mm=X.L.length-j/\v0=.box r 0/\v1=bv (lev:Nat)/\j<=X.L.length/\i<j/\40*(X.L.length-j)+1<=f'/\f'<=fu/\fH false [v6] left/\aa.box r=some (rd X j)/\Out X r aa R (ky X.L X.E f' lev left j),
    ⟨_,ns,j,fu,rfl,rfl,rfl,hj,eF,d6,da _,hk,A.box,O⟩,?_⟩
   clear hk A O eF hj e g1 g2;rintro mm v0 v1 v6 aV ⟨left,j,f',rfl,rfl,rfl,hj,eF,GU,mD,hk,q9,O⟩;cases f' with
   | zero=>omega
   | succ f' =>
     rw[ky,Qn]at O;simp only[bL,ao,aP,cK,nM q9,rd,List.drop,gg,abu lev d6];refine QA q9 hj λbG e3=>?_;simp only[bh];refine⟨?_,?_,?_⟩
     . intro b hb;simp only[cB,DD,mQ,iM,lT,dy,List.not_mem_nil,or_false]at hb;subst hb;cases e:aV.live b with
       | none=>exact absurd e (cN q9)
       | some x=>exact e3 b x e
     . intro b hb;simp[cB,opM]at hb
     simp only[abv,ao,bN,List.drop,gg,db,ad];have A3:gK r (rd X j) aV bG:=.mV q9 e3;cases hop:(AO lev).find? λp=>p.1=vg X.L[j]? with
     | none =>
       rw[hop]at O;simp only[Option.isSome_none,dS,aL];exact aq.mk (O.ok _ _ rfl hj _ bG hk A3)
     | some p =>
       rw[hop]at O
       replace O:=O.jW A3
       simp only[Option.isSome_some,cL,aG];have aA:j<X.L.length:=Qo (lev:=lev) (k:=p.2) (by rw[Qn,hop];rfl);refine jq A3.box hj λk cI S=>?_;simp only[bL,ad,aP,cK];refine ZQ S aA λdc S=>?_;simp only[aN,ad,bp];simp only[Option.map_some]at O;refine⟨λe8=>?_,λn8=>?_⟩
       . have e8:lev=8:=by omega
         rw[if_pos e8]at O;refine ry S O λx jg S O=>D0 S λgZ S=>?_;have mE:=S.hi;refine NP S hk λa' aa Av A'=>?_;exact⟨_,d6,_,j+1+1,f',rfl,rfl,rfl,S.hi,d6,d6,d6,Av,A'.box,O.jW A'⟩
       . have n8:¬ lev=8:=by omega
         rw[if_neg n8]at O;simp only[cF];refine⟨aX d6 d6,?_⟩;obtain⟨g1,g2⟩:=hS f' d6 (j+1) (lev+1) aA d6 d6 d6;rw[show ((lev:Nat):Int)+1=((lev+1:Nat):Int) by omega];refine g1 r dc _ S.A.box ⟨λns j2 e p7 b jg hkb A=>?_,λj e aa A=>O.bad j (by rw[e];rfl) aa (S.A.trans A)⟩;rw[e]at g2 O;have Br:j+1<j2:=g2.1;refine acG (S.jW A p7 d6) hk hkb λa' aa Av A'=>?_
         replace O:Out X r bG R (if lev=5 then .ok (node p.2 [] 0 0 (cT X.L X.E j) (left++ns)) j2 else ky X.L X.E f' lev (node p.2 [] 0 0 (cT X.L X.E j) (left++ns)) j2):=O
         refine⟨λe5=>?_,λn5=>?_⟩
         . rw[if_pos d6]at O;exact aq.mk (O.ok _ _ rfl p7 a' aa Av A')
         . rw[if_neg d6]at O;exact⟨_,d6,_,j2,f',rfl,rfl,rfl,p7,d6,d6,d6,Av,A'.box,O.jW A'⟩
end
def fH.size{l:List Nd}(h:fH false [a] l):∃x r,l=x::r/\x.size=(l.length:Int):=by
 generalize hb:false=b at h;generalize hl:[a]=la at h;cases h with
 | mk _ _=>exact⟨_,_,rfl,by simp[node]⟩
 | nil=>cases hl
 | cons _ _=>cases hb
def fH.count:∀{ks ks':List AV}{l:List Nd},fH true ks l->fH true ks' l->ks.length=ks'.length
 | [],ks',l,h,h'=>by
   have:l=[]:=by
    generalize hb:true=b at h;generalize hl:([]:List AV)=la at h;cases h with
    | mk _ _=>cases hb
    | nil=>rfl
    | cons _ _=>cases hl
   rw[h'.ne_nil rfl this]
 | a::ks,ks',l,h,h'=>by
   generalize hb:true=b at h;generalize hl:a::ks=la at h;cases h with
   | mk _ _=>cases hb
   | nil=>cases hl
   | @cons a1 ks1 l1 l2 h1 h2 =>
     cases hl;obtain⟨x,r,e1,e2⟩:=h1.size;generalize GZ:l1++l2=ll at h';generalize fi:true=b' at h';cases h' with
     | mk _ _=>cases fi
     | nil=>rw[e1]at GZ;cases GZ
     | @cons a3 ks3 l3 l4 h3 h4 =>
       obtain⟨y,r',e3,e4⟩:=h3.size;have Ff:x=y:=by rw[e1,e3]at GZ;simpa using congrArg List.head? GZ
       have hlen:l1.length=l3.length:=by rw[Ff]at e2;omega
       obtain⟨_,h24⟩:=List.append_inj GZ hlen;subst h24;simp[fH.count h2 h4]
section
variable {X:Rx}{aj U:St}{r k i:Nat}{kind:Int}{text:aT}{n m at_:Int}{l:List Nd}{R:bi}{K':am}{Kp:am}{w:aT}
def acH{q:Unit->Nat->PR (List Nd)}(hr:U.box r=some (rd X i))(hi:i<=X.L.length)(O:Out X r U R ((bR X.L w i).bind q))(h:∀aa,i+1<=X.L.length->gK r (rd X (i+1)) U aa->Out X r aa R (q () (i+1))->K' (.az []) aa):ag K 102 [.box r 0,.str w] U (bD K' (aD R)) :=
 Iu hr hi w (λe hl aa A=>h aa hl A (by rw[e]at O;exact Out.jW O A)) λe aa A=>O.bad _ (by rw[e];rfl) _ A
def IQ(S:Sk X aj r k i kind text n m at_ l U)(hb:bP X.L i w)(h:∀aa,Sk X aj r k (i+1) kind text n m at_ l aa->K' (.az []) aa):ag K 102 [.box r 0,.str w] U (bD K' Kp) :=
 Iu S.A.box S.hi w (λe hl aa A=>h aa (S.jW A hl d6)) λe aa A=>by simp[bR,hb]at e
structure Below (X:Rx) (fu:Nat):Prop where
 term:∀f',f'<=fu->∀j,j<=X.L.length->40*(X.L.length-j)+11<=f'->Ct X 109 j (iE X.L X.E f' j)
 first:∀f',f'<=fu->∀j,j<=X.L.length->40*(X.L.length-j)+10<=f'->Ct X 169 j (cM X.L X.E f' j)
 oper:∀f',f'<=fu->∀j lev,j<=X.L.length->2<=lev->lev<=9->40*(X.L.length-j)+(11-lev)<=f'->Co X j lev (fZ X.L X.E f' lev j)
 atom:∀f',f'<=fu->∀j,j<=X.L.length->40*(X.L.length-j)+1<=f'->Ct X 252 j (lX X.L X.E f' j)
 arg:∀f',f'<=fu->∀j,j<=X.L.length->40*(X.L.length-j)+12<=f'->Ct X 269 j (jX X.L X.E f' j)
def Below.TG{i:Nat}(B:Below X fu)(hf:40*(X.L.length-i)+10<=fu+40):kW X fu i:=λj hj eF =>
 ⟨B.first fu (da _) j hj d6,(uV fu).2.2.1 j hj d6⟩
def Below.ops(B:Below X fu):Li X fu:=λf' hf j lev hj h2 h9 he=>⟨B.oper f' hf j lev hj h2 h9 he,(uV f').2.2.2.1 j lev hj h9 he⟩
def aeh(B:Below X fu)(he:40*(X.L.length-i)+12<=fu){q:List Nd->Nat->PR (List Nd)}(S:Sk X aj r k i kind text n m at_ l U)(O:Out X r aj R ((jX X.L X.E fu i).bind λa j=>(ki X.L X.E fu a j).bind q))
 (h:∀ns j aa,j<=X.L.length->i<j->Sk X aj r k j kind text n m at_ (l++ns) aa->Out X r aj R (q ns j)->K' (.az []) aa):ag K 106 [.box r 0,.box k 0,.func (.func 269) [.box r 0] []] U (bD K' (aD R)):=by
 refine Kh ?_;dsimp only[Nx,ae,ak,fU,aQ,ah,aC];have n6:gP K.P 269:=by kernel_rfl
 rw[Lf n6 (c:=[])];simp only[Hs];have C:∀f',f'<=fu->∀j,j<=X.L.length->40*(X.L.length-j)+12<=f'->Ct X 269 j (jX X.L X.E f' j)/\Gd X.L.length (j+1) j (jX X.L X.E f' j):=λf' h1 j h2 h3=>⟨B.arg f' h1 j h2 h3,(uV f').2.2.2.2.2.2.2 j h2 h3⟩;obtain⟨c1,c2⟩:=C fu (da _) i S.hi he;refine ko S c1 c2 O λns j aK hj eF S1 O1=>?_;refine⟨λmm v0 v1 v2 aa=>∃acc j f',mm=X.L.length-j/\v0=.box r 0/\v1=.box k 0/\v2=.func (.func 269) [.box r 0] []/\j<=X.L.length/\i<j/\40*(X.L.length-j)+1<=f'/\f'<=fu/\Sk X aj r k j kind text n m at_ (l++acc) aa/\Out X r aj R ((ki X.L X.E f' acc j).bind q),
  ⟨_,ns,j,fu,rfl,rfl,rfl,rfl,hj,eF,d6,da _,S1,O1⟩,?_⟩
 rintro mm v0 v1 v2 aV ⟨acc,j2,f',rfl,rfl,rfl,rfl,p7,Br,mD,PE,S2,O2⟩;cases f' with
 | zero=>omega
 | succ f' =>
   rw[ki]at O2;refine uw S2 (λhw bG S3=>?_) (λhw bG S3=>?_)
   . simp only[aL];rw[if_pos hw]at O2;have aA:=de hw;rw[Lf n6 (c:=[])];have e2:((jX X.L X.E f' (j2+1)).bind λb j=>ki X.L X.E f' (acc++b) j).bind q=(jX X.L X.E f' (j2+1)).bind λb j=>(ki X.L X.E f' (acc++b) j).bind q:=by
      cases jX X.L X.E f' (j2+1)<;>rfl
     rw[e2]at O2;obtain⟨c1,c2⟩:=C f' d6 _ aA d6;refine ko S3 c1 c2 O2 λui j3 cI Jv ajF S4 O4=>?_;exact⟨_,d6,acc++ui,j3,f',rfl,rfl,rfl,rfl,Jv,d6,d6,d6,by rw[<-lG];exact S4,O4⟩
   . simp only[aG];rw[if_neg (by rw[hw];simp)]at O2;exact aq.mk (h acc j2 bG p7 Br S3 O2)
def afZ(B:Below X fu)(hi:i<=X.L.length)(he:40*(X.L.length-i)+12<=fu+1):Ct X 269 i (jX X.L X.E (fu+1) i):=by
 intro r U R hr O;refine ZB ?_;dsimp only[ZA,ae,ak,ah,aC];rw[jX]at O;have hs:=X.small;have hF:=B.TG (i:=i) d6;refine NO hr hi λb aK hb A1=>?_
 replace O:=O.jW A1
 cases b with
 | true =>
   simp only[aL];rw[if_pos hb]at O;refine jq A1.box hi λk aV S=>?_;refine IQ S hb λbG S=>eJ S O λbG S O=>?_;refine It (by kernel_rfl) (λi hi=>Pj hi) (λi hi=>xL hi) d6 d6 S O λns j cI hj eF S O=>?_;refine eJ S O λdc S O=>?_;exact oP hF d6 S O λns j dc hj eF S O=>fX S O
 | false =>
   simp only[aG];rw[if_neg (by rw[hb];simp)]at O;refine NO A1.box hi λb2 aV iq A2=>?_
   replace O:=O.jW A2
   cases b2 with
   | true =>
     simp only[aL];rw[if_pos iq]at O;refine jq A2.box hi λk aV S=>?_;refine IQ S iq λbG S=>eJ S O λbG S O=>?_;refine oP hF d6 S O λns j dc hj eF S O=>eJ S O λ_ S O=>eJ S O λ_ S O=>?_;refine ko S (Pj S.hi) (xL S.hi) O λns j dc hj eF S O=>eJ S O λ_ S O=>?_;exact oP hF d6 S O λns j dc hj eF S O=>eJ S O λ_ S O=>fX S O
   | false =>
     simp only[aG];rw[if_neg (by rw[iq];simp)]at O;exact EF (B.term fu (da _) i hi d6) A2.box O
end
variable {b:Nat}
def jx{U:St}{ks vs:List AV}:(U.set b (.mp ks vs)).mp b=some (ks,vs):=by simp[St.mp,eM]
def zb{U:St}{ks vs:List AV}:(U.new b (.mp ks vs)).mp b=some (ks,vs):=by simp[St.mp,oK]
def R3{U aa:St}(h:aa.live b=U.live b):aa.mp b=U.mp b:=by simp[St.mp,h]
def dt.mp{U aa:St}{x:List AV×List AV}(h:dt U aa)(k:U.mp b=some x):aa.mp b=some x:=by
 cases e:U.live b with
 | none=>simp[St.mp,e]at k
 | some y=>rw[R3 ((h b y e).trans e.symm)];exact k
def Bb{C:dQ}{U:St}{K':am}{Kp:am}{m:Nat}{ks vs ks' vs':List AV}{s:aT}{v:AV}{t:TypeId}(h:U.mp m=some (ks,vs))(hf:ow .s (.str s) ks 0=some none)(hi:jG (.str s) v ks vs=(ks',vs')) :
 (ff (some (.s,t)) (.mp m) (.str s) v U).wp C U K' Kp=K' (.az []) (U.set m (.mp ks' vs')):=by
 simp only[ff,h,hf,sR,hi];rfl
def vV:List (aT×Int):=[(ni,32),(eK,28),(iZ,30),(lL,31),(gG,29),(eA,27)]
def ael(s:aT){U:St}{m:Nat}(h:U.mp m=some (vV.map λp=>.str p.1,vV.map λp=>co p.2)):fK (some (.s,5)) (some (co 0)) (.mp m) (.str s) true U=.val (.az [co (match vV.find? (λp=>p.1=s) with|some p=>p.2|none=>0),.bool (vV.find? (λp=>p.1=s)).isSome]):=by
 have:=y8 s (co 0) (vV.map λp=>(p.1,co p.2));rw[List.map_map,List.map_map,List.find?_map]at this;simp only[fK,mM,sR,h];rw[show (vV.map λp=>AV.str p.1)=List.map ((λp:aT×AV=>AV.str p.1) ∘ λp=>(p.1,co p.2)) vV from rfl,show (vV.map λp=>co p.2)=List.map ((λp:aT×AV=>p.2) ∘ λp=>(p.1,co p.2)) vV from rfl,this];have e:((λp:aT×AV=>decide (p.1=s)) ∘ λp:aT×Int=>(p.1,co p.2))=λp=>decide (p.1=s):=rfl;rw[e];cases vV.find? λp=>decide (p.1=s)<;>rfl
section
variable {X:Rx}{aj U:St}{r k i:Nat}{kind:Int}{text:aT}{n m at_:Int}{l:List Nd}{R:bi}{K':am}{Kp:am}{w:aT}
def aen(B:Below X fu)(hi:i<=X.L.length)(he:40*(X.L.length-i)+1<=fu+1):Ct X 252 i (lX X.L X.E (fu+1) i):=by
 intro r U R hr O;refine Zr ?_;dsimp only[Zq,jr,fe,ae,bg,ak,vw,aQ,ah,ar,cw,cG,bX,ej,cn,aC,dm];have hs:=X.small;rw[my];intro mm wi;have e1:dt U (U.new mm (.mp [] [])):=(dt.refl U).new wi;have hn:=wi.1;rw[show NV.at mm .mp=AV.mp mm from rfl];generalize aa8:U.new mm (.mp [] [])=aK at e1 ⊢;have m1:aK.mp mm=some ([],[]):=by rw[<-aa8];exact zb
 rw[Bb (ks':=[.str eA]) (vs':=[co 27]) m1 rfl rfl];rw[Bb (ks':=[.str eK,.str eA]) (vs':=[co 28,co 27]) jx rfl rfl];rw[Bb (ks':=[.str eK,.str gG,.str eA]) (vs':=[co 28,co 29,co 27]) jx rfl rfl];rw[Bb (ks':=[.str eK,.str iZ,.str gG,.str eA]) (vs':=[co 28,co 30,co 29,co 27]) jx rfl rfl];rw[Bb (ks':=[.str eK,.str iZ,.str lL,.str gG,.str eA]) (vs':=[co 28,co 30,co 31,co 29,co 27]) jx rfl rfl];rw[Bb (ks':=[.str ni,.str eK,.str iZ,.str lL,.str gG,.str eA]) (vs':=[co 32,co 28,co 30,co 31,co 29,co 27]) jx rfl rfl];have e2:=(((((e1.set (x:=.mp [.str eA] [co 27]) hn).set (x:=.mp [.str eK,.str eA] [co 28,co 27]) hn).set (x:=.mp [.str eK,.str gG,.str eA] [co 28,co 29,co 27]) hn).set (x:=.mp [.str eK,.str iZ,.str gG,.str eA] [co 28,co 30,co 29,co 27]) hn).set (x:=.mp [.str eK,.str iZ,.str lL,.str gG,.str eA] [co 28,co 30,co 31,co 29,co 27]) hn).set (x:=.mp [.str ni,.str eK,.str iZ,.str lL,.str gG,.str eA] [co 32,co 28,co 30,co 31,co 29,co 27]) hn;generalize aa9:((((((aK.set mm (.mp [.str eA] [co 27])).set mm _).set mm _).set mm _).set mm _).set mm _)=aV at e2 ⊢;have m2:aV.mp mm=some (vV.map λp=>.str p.1,vV.map λp=>co p.2):=by rw[<-aa9];exact jx
 have q9:=e2.bq hr;refine QA q9 hi λbG e3=>?_;simp only[bh,ael _ (e3.mp m2),ad,bN,List.drop,bI];have A3:gK r (rd X i) U bG:=.mV hr (e2.trans e3)
 replace O:=O.jW A3
 have hw:∀w:aT,w≠[]->bP X.L i w=decide (w=vg X.L[i]?):=λw h=>by rw[JM h];simp[eq_comm]
 rw[lX,hw eA d7,hw eK d7,hw gG d7,hw iZ d7,hw lL d7,hw ni d7]at O;simp only[dU]at O;cases Jq:vV.find? λp=>p.1=vg X.L[i]? with
 | some p =>
   simp only[Option.isSome_some,aL];have hp:p∈vV:=List.mem_of_find?_eq_some Jq;have yV:p.1=vg X.L[i]?:=by simpa using List.find?_some Jq
   have cD:p.1≠[]:=by
    have:∀p∈vV,p.1≠[]:=by decide
    exact this p hp
   have aA:i<X.L.length:=de (w:=p.1) (by rw[hw _ cD,yV];simp);refine jq A3.box hi λk cI S=>?_;simp only[bL,ad,aP,cK];refine ZQ S aA λdc S=>?_;intro j hj;simp only[aN,ad,aF,aw,ma,bO];rw[<-yV]at O;simp only[vV,dy,List.not_mem_nil,or_false]at hp;have t1:(ni=eA)=False:=by simp;decide
   rcases hp with rfl|rfl|rfl|rfl|rfl|rfl
   . simp (decide:=true) only[if_false,if_true]at O;simp (decide:=true) [aL];exact px S O λx _ S O=>py S λ_ S=>hj _ _ (fX S O)
   . simp (decide:=true) only[if_false,if_true]at O;simp (decide:=true) [aG];exact hj _ _ (fX S O)
   . simp (decide:=true) only[if_false,if_true]at O;simp (decide:=true) [aG];exact hj _ _ (fX S O)
   . simp (decide:=true) only[if_false,if_true]at O;simp (decide:=true) [aL];exact px S O λx _ S O=>py S λ_ S=>hj _ _ (fX S O)
   . simp (decide:=true) only[if_false,if_true]at O;simp (decide:=true) [aG];exact hj _ _ (fX S O)
   . simp (decide:=true) only[if_false,if_true]at O;simp (decide:=true) [aG];exact hj _ _ (fX S O)
 | none =>
   simp only[Option.isSome_none,aG];have iV:∀w∈vV.map (·.1),¬ w=vg X.L[i]?:=λw hw e=>by
    rw[List.find?_eq_none]at Jq;obtain⟨p,hp,rfl⟩:=List.mem_map.1 hw;simpa [e] using Jq p hp
   rw[if_neg (iV _ d7),if_neg (iV _ d7),if_neg (iV _ d7),if_neg (iV _ d7),if_neg (iV _ d7),if_neg (iV _ d7)]at O;refine MW A3.box hi dM (λhb cI A4=>?_) (λhb cI e4=>?_)
   . simp only[bh,aL];rw[if_pos hb]at O;have aA:=de hb
     replace O:=O.jW A4
     have g2:=(uV (L:=X.L) (E:=X.E) fu).1 (i+1) aA d6;refine B.term fu (da _) (i+1) aA d6 r cI _ A4.box ⟨λns j e hj a aa hk A=>?_,λj e aa A=>O.bad j (by rw[e];rfl) aa A⟩;rw[e]at O;refine acH A.box hj (Out.jW O A) λdc hj5 A5 O=>?_;exact aq.mk (O.ok _ _ rfl hj5 a dc hk ⟨A5.box,jT.refl _ _⟩)
   . simp only[bh,aG];rw[if_neg (by rw[hb];simp)]at O;have A4:gK r (rd X i) bG cI:=.mV A3.box e4
     replace O:=O.jW A4
     refine tn A4.box hi 0 d6 λdc e5=>?_;rw[Nat.add_zero];have A5:gK r (rd X i) cI dc:=.mV A4.box e5
     replace O:=O.jW A5
     obtain⟨kd,s,a,e,hm⟩:=zm X.L[i]?;rw[e];simp only[bh,GF,List.drop,bI,aN,ad,bp];have iN:ij X.L i 2=true↔kd=2:=by
      refine Iff.trans ?_ (hm 2 d6).symm;unfold ij;cases ht:X.L[i]? with
      | none=>simp
      | some t =>
        rw[ht]at e;simp only[uJ,jD,List.cons.injEq,AV.str.injEq,true_and]at e;simp[e.2.1]
     refine⟨λh2=>?_,λh2=>?_⟩
     . rw[if_pos (iN.2 h2)]at O;refine jq A5.box hi λk jg S=>?_;simp only[bL,ad,aP,cK];exact ry S O λx _ S O=>D0 S λ_ S=>fX S O
     . rw[if_neg (λh=>h2 (iN.1 h))]at O;refine jq A5.box hi λk jg S=>?_;simp only[bL,ad,aP,cK];refine px S O λx _ S O=>py S λ_ S=>?_;intro j hj;refine uw S (λhw gZ S=>?_) λhw gZ S=>?_
       . simp only[aL];rw[if_pos hw]at O;have hh:=S.hi;refine EE S λ_ S=>aeh B d6 S O λns j2 pE p7 Br S O=>?_;exact eJ S O λ_ S O=>hj _ _ (fX S O)
       . simp only[aG];rw[if_neg (by rw[hw];simp)]at O;exact hj _ _ (fX S O)
end
section
variable {X:Rx}{aj U:St}{r k i:Nat}{kind:Int}{text:aT}{n m at_:Int}{l:List Nd}{R:bi}{K':am}{Kp:am}{w:aT}
def afC(S:Sk X aj r k i kind text n m at_ [] U)(hi:1<=i)(hk:fH false [a] ns)(h:∀aa,Sk X aj r k i kind text n m at_ ns aa->K' (.box k 0) aa) :
 (ai (some (87,1)) (some [AV.bE]) 1 false [(0,a)]).wp K U (λv U=>ag K 103 [.box k 0,v] U (bD K' (aD R))) (aD R) :=
 NN S (λks h1 h2 h3=>⟨ks,h1,h2,by rw[h2.ne_nil rfl rfl];simpa using hi⟩) hk λaa S=>h aa (by simpa using S)
def aaQ{U:St}{v:AV}{e sz n:Nat}{l:List AV}(h:Grow U v e sz n l):dK (some false) v=.val (bv n):=by
 rcases h with ⟨rfl,rfl,rfl⟩|⟨τ,rfl,_⟩<;>rfl
def afG(B:Below X fu)(hi:i<=X.L.length)(he:40*(X.L.length-i)+11<=fu+1):Ct X 109 i (iE X.L X.E (fu+1) i):=by
 intro r U R hr O;refine VW ?_;dsimp only[VV,CC,wW,ae,bg,ak,pZ,fU,aQ,ah,ar,cJ,cG,bX,aC,dr,dA];have hs:=X.small;rw[iE]at O;have g:=(uV (L:=X.L) (E:=X.E) fu).2.2.1 i hi d6;refine B.first fu (da _) i hi d6 r U _ hr ⟨λns j e hj a aK hk A1=>?_,λj e aa A=>O.bad j (by rw[e];rfl) aa A⟩
 rw[e]at O g;have eF:i<j:=g.1;have O1:Out X r aK R (mr X.L X.E fu (cT X.L X.E j) ns 1 j):=Out.jW O A1;clear O e g;refine jq A1.box hj λk aV S=>?_;refine afC S d6 hk λbG S=>?_;intro jj uH;have fin:∀(acc:List Nd)(many q:Nat)(aa:St),Sk X aK r k q 9 [] 0 0 (cT X.L X.E j) acc aa->(∃ks,fH true ks acc/\ks.length=many)->(many=1->acc=ns)->Out X r aK R (.ok (if many=1 then acc else node 9 [] 0 0 (cT X.L X.E j) acc) q)->jj a (.box k 0) aa:=by
  intro acc many q aa S ⟨ks0,E6,tY⟩ h1 O;refine uH _ _ _ ?_;have hq':=S.hi;have hA':=S.A;obtain⟨ks,M,GX,hle⟩:=S.M;have hl:ks.length=many:=(GX.count E6).trans tY;obtain⟨kv,b1,b2,b3,b4⟩:=M.box;simp only[bL,ad,aP,cK,gJ b1,oc,List.drop,bI,aaQ b2,aN,bp,hl];refine⟨λh=>?_,λh=>?_⟩
  . have h:many=1:=by omega
    rw[if_pos h]at O;have:=h1 h;subst this;exact aq.mk (O.ok _ _ rfl hq' a aa hk hA')
  . rw[if_neg d6]at O;exact fX S O
 refine⟨λmm v0 v3 v4 aa=>∃acc many q f',mm=X.L.length-q/\v0=.box r 0/\v3=a/\v4=.box k 0/\i<q/\40*(X.L.length-q)+1<=f'/\f'<=fu/\Sk X aK r k q 9 [] 0 0 (cT X.L X.E j) acc aa/\(∃ks,fH true ks acc/\ks.length=many)/\(many=1->acc=ns)/\1<=many/\Out X r aK R (mr X.L X.E f' (cT X.L X.E j) acc many q),
  ⟨_,ns,1,j,fu,rfl,rfl,rfl,rfl,eF,d6,da _,S,⟨[a],hk.one,rfl⟩,λ_=>rfl,da _,O1⟩,?_⟩
 clear O1 S eF;rintro mm v0 v3 v4 cI ⟨acc,many,q,f',rfl,rfl,rfl,rfl,hiq,GU,mD,S,ju,Jy,hm2,O⟩;cases f' with
 | zero=>omega
 | succ f' =>
   rw[mr]at O;have hq:=S.hi;refine ZR S λb dc hb S=>?_;cases b with
   | false =>
     simp only[aG];rw[if_neg (by rw[hb];simp)]at O;exact fin acc many q dc S ju Jy O
   | true =>
     simp only[aL];have aA:=de hb;refine tn S.A.box hq 1 d6 λjg e6=>?_;obtain⟨kd,s,at',e,hm⟩:=zm X.L[q+1]?;have Ik:kd=0↔X.L.length<=q+1:=by
      cases ht:X.L[q+1]? with
      | none =>
        rw[ht]at e;simp only[uJ,List.cons.injEq,AV.int.injEq,true_and]at e;rw[List.getElem?_eq_none_iff]at ht;exact⟨λ_=>ht,λ_=>e.1.symm⟩
      | some t =>
        rw[ht]at e;simp only[uJ,jD,List.cons.injEq,AV.int.injEq,true_and]at e;have:=(dw.1 ht).1;have hk:=(X.ok t (fT ht)).cases;constructor
        . intro h;omega
        . intro h;omega
     have hbg:=Oh X.L[q+1]?;rw[ae3]at hbg;rw[e]at hbg ⊢;simp only[bh,my];intro b2 iq;have e7:=e6.new (x:=.box [co 0,AV.str [],bv 0]) iq;rw[show NV.at b2 .box=AV.box b2 0 from rfl,cV aH];refine⟨⟨rfl,rfl,d8⟩,?_⟩;have e8:=e7.set (x:=.box (ax [co 0,AV.str [],bv 0] 0 (al (.agg [co kd,.str s,bv at'])))) (e6.fresh iq.1);generalize qK:(jg.new b2 (.box [co 0,AV.str [],bv 0])).set b2 (.box (ax [co 0,AV.str [],bv 0] 0 (al (.agg [co kd,.str s,bv at']))))=pE at e8 ⊢;have tD:pE.box b2=some [co kd,.str s,bv at']:=by rw[<-qK,aZ];rfl
     replace S:=S.jW (.mV S.A.box e8) hq (da _)
     simp only[aP,ad,gJ tD,List.drop,bI,cK,aN,aF,aw];have stop:¬ (q+1<X.L.length/\zH X.L (q+1)=false)->jj v3 (.box k 0) pE:=λhn=>by
      rw[if_neg (λh=>hn h.2)]at O;exact fin acc many q pE S ju Jy O
     by_cases h0:kd=0
     . simp only[h0,cC,show (true==false)=false from rfl,bB,av,if_true,ad,aL];exact stop (λh=>by have:=Ik.1 h0;omega)
     . simp only[h0,cZ,eG,bO,B0 tD,Nl,iI,av,bW,if_false,ad];refine⟨d8,_,hbg,?_⟩;cases hit:zH X.L (q+1) with
       | true=>simp only[aL];exact stop (λh=>by rw[hit]at h;cases h.2)
       | false =>
         simp only[aG];have nH:q+1<X.L.length:=by
          rcases ik (q+1) X.L.length with h|h
          . exact h
          . exact absurd (Ik.2 h) h0
         rw[if_pos ⟨hb,nH,hit⟩]at O;refine IQ S hb λrF S=>?_;have hF:kW X f' q:=λj hj hqj=>⟨B.first f' d6 j hj d6,(uV f').2.2.1 j hj d6⟩
         have agx:∀uh a2,fH false [a2] uh->∃ks,fH true ks (acc++uh)/\ks.length=many+1:=λuh a2 h=>by
          obtain⟨ks,h1,h2⟩:=ju;exact⟨ks++[a2],h1.snoc h,by simp[h2]⟩
         obtain⟨g1,g2⟩:=hF (q+1) aA d6;refine g1 r rF _ S.A.box ⟨λuh j2 e p7 a2 sw iN A2=>?_,λj e aa A=>O.bad j (by rw[e];rfl) aa (S.A.trans A)⟩;rw[e]at g2 O;have hqj:q+1<j2:=g2.1;obtain⟨ks,M1,M2,M3⟩:=S.M;have S2:=S.jW A2 p7 d6;refine NN S2 (λ_ _ _ _=>⟨ks,M1.jW A2 S.A.box,M2,d6⟩) iN λac0 S3=>?_;refine⟨_,?_,acc++uh,many+1,j2,f',rfl,rfl,rfl,rfl,d6,d6,d6,S3,agx uh a2 iN,λh=>by omega,d6,O⟩;omega
end
def below:∀(X:Rx)(fu:Nat),Below X fu:=λX fu=>by
 induction fu with
 | zero=>constructor<;>intros<;>omega
 | succ fu B =>
   have st:∀{f':Nat},f'<=fu+1->f'<=fu\/f'=fu+1:=λh=>by omega
   refine⟨λf' hf j hj he=>?_,λf' hf j hj he=>?_,λf' hf j lev hj h2 h9 he=>?_,λf' hf j hj he=>?_,λf' hf j hj he=>?_⟩
   . rcases st hf with h|rfl
     . exact B.term f' h j hj he
     . exact afG B hj he
   . rcases st hf with h|rfl
     . exact B.first f' h j hj he
     . exact aaJ hj (B.TG d6) (B.oper fu (da _) j 2 hj d6 d6 d6)
   . rcases st hf with h|rfl
     . exact B.oper f' h j lev hj h2 h9 he
     . exact afe hj h2 h9 he (λh=>B.atom fu (da _) j hj d6) B.ops
   . rcases st hf with h|rfl
     . exact B.atom f' h j hj he
     . exact aen B hj he
   . rcases st hf with h|rfl
     . exact B.arg f' h j hj he
     . exact afZ B hj he
def abf(X:Rx){i:Nat}(hi:i<=X.L.length):Ct X 55 i (lH X.L X.E (fuel X.L) i):=by
 have hf:40*(X.L.length+2)=fuel X.L:=rfl;exact aeN hi d6 λj hj eF=>⟨(below X _).term _ (da _) j hj d6,(uV _).1 j hj d6⟩
end Go.Rip
