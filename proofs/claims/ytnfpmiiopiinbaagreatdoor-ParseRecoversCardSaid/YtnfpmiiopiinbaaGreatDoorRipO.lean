/- Lemmas for the proof: no conditions. -/
import Derived.Test.YtnfpmiiopiinbaaGreatDoorRipZz
import Derived.Test.YtnfpmiiopiinbaaGreatDoorRipN
set_option linter.unusedVariables false
set_option linter.unusedSimpArgs false
set_option linter.loopingSimpArgs false
namespace Go.Rip
open Go.Proofs Go.RowKit
section
variable {X:Rx} {i:Nat}
theorem FP {U:St} {r:Nat} {w:aT} {K':AV->St->Prop} {Kp:AV->St->Prop} (hr:U.box r=some (rd X i)) (hi:i<=X.L.length) (h:∀ b ad,bB X.L i w=b->eP r (rd X i) U ad->K' (.bool b) ad) :
 (aF (some (9,1)) (some [AV.str []]) 1 false [(0,.str w)]).wp K U (λ v U=>ae K 105 [.box r 0,v] U (aj K' Kp)) Kp:=by
 rw[fw];refine⟨by omega,?_⟩;rw[dQ (o:=0) (s:=1) rfl];refine⟨⟨rfl,rfl,by simp[bN]⟩,?_⟩;rw[gw];refine⟨rfl,?_⟩;refine Jo (l:=[w]) hr hi (by simp) λ bF e1=>?_;exact h _ _ (by rw[xU]) (.pX hr e1)
theorem xZ {U:St} {r:Nat} {R:cM->St->Prop} {f:FuncId} {p:PR (List Nd)} (C:Ct X f i p) (hr:U.box r=some (rd X i)) (O:Out X r U R p):ae K f [.box r 0] U (aj (λ v U=>aq R v U) (aa R)) :=
 C r U _ hr ⟨λ ns j e hj a ad hk A=>aq.mk (O.ok ns j e hj a ad hk A),O.bad⟩
theorem xJ (hi:i<=X.L.length):Ct X 108 i (iC X.L X.E i):=by
 intro r U R hr O;refine MC ?_;unfold MB;refine eQ hr hi λ k bF S=>?_;simp only[bS,ak,aN,cq];intro j hj;unfold iC at O;refine oU S (λ h1 bI S=>?_) λ h1 bI S=>?_
 . rw[if_pos h1]at O;simp only[a8];exact xp S λ cj S=>hj _ _ (du S O)
 rw[if_neg (by rw[h1]; simp)]at O;simp only[aW];refine oU S (λ h2 bI S=>?_) λ h2 bI S=>?_
 . rw[if_pos h2]at O;simp only[a8];exact xp S λ cj S=>hj _ _ (du S O)
 rw[if_neg (by rw[h2]; simp)]at O;simp only[aW];refine oU S (λ h3 bI S=>?_) λ h3 bI S=>?_
 . rw[if_pos h3]at O;simp only[a8];exact mw S O λ x cj S O=>xY S λ cm S=>xp S λ cY S=>hj _ _ (du S O)
 rw[if_neg (by rw[h3]; simp)]at O;simp only[aW];exact cQ S O λ cj S O=>mw S O λ x cj S O=>xp S λ cY S=>hj _ _ (du S O)
theorem G4 (hi:i<=X.L.length):Ct X 278 i (lS X.L X.E i):=by
 intro r U R hr O;refine N9 ?_;unfold N8;refine eQ hr hi λ k bF S=>?_;simp only[bS,ak,aN,cq];exact kG S O λ x cj S O=>kH S λ cY S=>du S O
theorem HM {f:Nat} (hi:i<=X.L.length) (hf:X.L.length<f):Ct X 104 i (mI X.L X.E f i):=by
 intro r U R hr O;refine Mx ?_;unfold Mw;refine FP hr hi λ b bF hb A1=>?_
 replace O:=O.eU A1
 simp only[dr,ak];unfold mI at O;cases b with
 | false =>
   simp only[dZ,a8];rw[if_neg (by rw[hb]; simp)]at O;exact xZ (xJ hi) A1.box O
 | true =>
   simp only[cT,aW];rw[if_pos hb]at O;refine eQ A1.box hi λ k bI S=>?_;have O':Out X r bF R ((bq X.L jx i).bind λ _ j=>(gl X.L (iC X.L X.E) f j).bind λ a j=>(bq X.L gE j).bind λ _ j=>(bq X.L gJ j).bind λ _ j=>(iC X.L X.E j).bind λ b j=>.ok (node 8 [] 0 0 (cU X.L X.E i) (a++b)) j):=by
    rw[show bq X.L jx i=.ok () (i+1) by simp[bq,hb]]; exact O
   refine cQ S O' λ cj S O=>?_;refine BA (by kernel_rfl) (λ i hi=>xJ hi) (λ i hi=>nO hi) (by omega) (by omega) S O λ ns j cm hj dV S O=>?_;refine cQ S O λ cY S O=>cQ S O λ kP S O=>?_;exact fK S (xJ S.hi) (nO S.hi) O λ Aw j2 jZ o7 uz S O=>du S O
theorem PQ {f:Nat} (hi:i<=X.L.length) (hf:X.L.length<f):Ct X 107 i (iw X.L X.E f i):=by
 intro r U R hr O;refine MA ?_;unfold Mz;refine eQ hr hi λ k bF S=>?_;simp only[bS,ak,aN,cq];refine kG S O λ x bI S O=>kH S λ cj S=>cQ S O λ cm S O=>?_;exact fK S (HM S.hi hf) (uI S.hi hf) O λ ns j cY hj dV S O=>du S O
theorem S5 {f:Nat} (hi:i<=X.L.length) (hf:X.L.length<f) (hg:∀ j,j<=X.L.length->i<j->Ct X 109 j (fX X.L X.E f j)/\Gd X.L.length (j+1) j (fX X.L X.E f j)):Ct X 55 i (eJ X.L X.E f i):=by
 intro r U R hr O;refine P8 ?_;unfold R3;unfold eJ at O;refine eQ hr hi λ k bF S=>?_;simp only[bS,ak,aN,cq];refine oU S (λ h1 bI S=>?_) λ h1 bI S=>?_
 . rw[if_pos h1]at O;simp only[a8];refine kG S O λ x bI S O=>kH S λ cj S=>cQ S O λ cm S O=>?_;refine fK S (HM S.hi hf) (uI S.hi hf) O λ ns j cY hj dV S O=>?_;exact cQ S O λ kP S O=>du S O
 rw[if_neg (by rw[h1]; simp)]at O;simp only[aW];refine xY S λ cj S=>?_;intro j hj;have rest:∀ (kk:Int) (p:Nat) (ad:St),i<p->Sk X U r k p kk [] 0 0 (cU X.L X.E i) [] ad->Out X r U R ((eK X.L p).bind λ x j=>(bq X.L jx j).bind λ _ j =>
  (if bB X.L j gE=true then .ok [] j else gl X.L (iw X.L X.E f) f j).bind λ a j =>
  (bq X.L gE j).bind λ _ j=>(bq X.L mQ j).bind λ _ j=>(iC X.L X.E j).bind λ b j=>(bq X.L pM j).bind λ _ j=>(fX X.L X.E f j).bind λ c j =>
  (bq X.L j9 j).bind λ _ j=>.ok (node kk x 0 0 (cU X.L X.E i) (a++b++c)) j)->j (.box r 0) (.box k 0) ad:=by
  intro kk p ad hp S O;refine hj _ _ _ ?_;refine kG S O λ x bI S O=>?_;simp only[bS,ak,aN,cq];refine kH S λ cj S=>cQ S O λ cm S O=>?_;intro j1 wo;have RS:∀ (ns:List Nd) (q:Nat) (ad:St),i<q->Sk X U r k q kk x 0 0 (cU X.L X.E i) ns ad->Out X r U R ((bq X.L gE q).bind λ _ j=>(bq X.L mQ j).bind λ _ j=>(iC X.L X.E j).bind λ b j=>(bq X.L pM j).bind λ _ j=>(fX X.L X.E f j).bind λ c j =>
   (bq X.L j9 j).bind λ _ j=>.ok (node kk x 0 0 (cU X.L X.E i) (ns++b++c)) j)->j1 (.box r 0) (.box k 0) ad:=by
   intro ns q ad hq S O;refine wo _ _ _ ?_;refine cQ S O λ cm S O=>cQ S O λ cm S O=>?_;refine fK S (xJ S.hi) (nO S.hi) O λ Aw j2 jZ o7 uz S O=>?_;refine cQ S O λ cm S O=>?_;obtain⟨g1,g2⟩:=hg _ S.hi (by omega);exact fK S g1 g2 O λ Aw j2 jZ o7 uz S O=>cQ S O λ cm S O=>du S O
  refine Og S λ b cY hb S=>?_;simp only[dr,ak];cases b with
  | false =>
    simp only[dZ,a8];rw[if_neg (by rw[hb]; simp)]at O;have mW:=X.small;refine BA (by kernel_rfl) (λ i hi=>PQ hi hf) (λ i hi=>CP hi hf) (by omega) (by omega) S O λ ns j cm hj dV S O=>?_;exact RS _ _ _ (by omega) S O
  | true =>
    simp only[cT,aW];rw[if_pos hb]at O;exact RS _ _ _ (by omega) S O
 refine oU S (λ h2 cm S=>?_) λ h2 cm S=>?_
 . rw[if_pos h2]at O;simp only[a8];exact xY S λ cY S=>rest _ _ _ (by omega) S O
 . rw[if_neg (by rw[h2]; simp)]at O;simp only[aW];have e:∀ (p:PR Unit) (q:Int->Nat->PR (List Nd)),(p.bind λ _ j=>PR.ok (4:Int) j).bind q=p.bind λ _ j=>q 4 j:=λ p q=>by cases p<;>rfl
   rw[e]at O;exact cQ S O λ cY S O=>rest _ _ _ (by omega) S O
end
end Go.Rip
namespace Go.Rip
open Go.Proofs Go.RowKit
theorem Jn {c:kf} (o:Option Tk) (l:List aT) (hn:l.length<=100000) (hc:closed (.vec l.length c (l.map .str))=true):Pure K 121 [.agg (ox o),.vec l.length c (l.map .str)] (.bool (sS o l)):=by
 refine Pure.of ?_ rfl (λ U=>rfl) λ R hR=>y7 o l hn λ ad _=>hR ad;have:closed (.agg (ox o))=true:=by cases o<;>rfl
 simp only[bG,this,hc,Bool.and_self]
section
variable {X:Rx} {az U:St} {r k i:Nat} {kind:Int} {text:aT} {n m at_:Int} {l:List Nd} {R:cM->St->Prop} {K':AV->St->Prop} {Kp:AV->St->Prop} {w:aT} {f:FuncId}
def gg (X:Rx) (f i:Nat):Prop:=∀ j,j<=X.L.length->i<j->Ct X 169 j (bU X.L X.E f j)/\Gd X.L.length (j+1) j (bU X.L X.E f j)
def Bb (X:Rx) (f:Nat) (fin:List Nd->Nat->PR (List Nd)):List aT->List Nd->Nat->PR (List Nd)
 | [],acc,i=>fin acc i
 | w::ws,acc,i=>(bq X.L w i).bind λ _ j=>(bU X.L X.E f j).bind λ a j=>Bb X f fin ws (acc++a) j
theorem FR {fu i0:Nat} (hF:gg X fu i0) {fin:List Nd->Nat->PR (List Nd)} (ws:List aT) (hw:ws.length<=10) (Eo:i0<=i) (S:Sk X az r k i kind text n m at_ l U) {ac:List Nd} (hac:ac=l) (O:Out X r az R (Bb X fu fin ws ac i))
 (h:∀ acc j ad,Sk X az r k j kind text n m at_ acc ad->Out X r az R (fin acc j)->aq R (.box k 0) ad) :
 dT 5 [.box r 0,.box k 0,.vec ws.length .full (ws.map .str),.int .i64 ws.length,.int .i64 0] U λ lp v0 v3 o0 mA v10 U =>
 (aw .lss (BT.mk false false false none false) false v10 mA).wp K U (λ v11 U =>
 aA v11 (
  (aJ (some (9,1)) none o0 v10).wp K U (λ v12 U =>
  (ar (some (false,1)) v12 U).wp K U (λ cF U =>
  ae K 102 [v0,cF] U (aj (λ cO U =>
  ae K 169 [v0] U (aj (λ dt U =>
  (aF (some (87,1)) (some [AV.aU]) 1 false [(0,dt)]).wp K U (λ v20 U =>
  ae K 103 [v3,v20] U (aj (λ v21 U =>
  (aw .add (BT.mk false false false none false) true v10 (AV.int .i64 1)).wp K U (λ dy U =>
  lp v0 v3 o0 mA dy U) (aa R)) (aa R))) (aa R)) (aa R))) (aa R))) (aa R)) (aa R)) (
  aq R v3 U)) (aa R):=by
 subst hac;refine⟨λ mm v0 v3 v8 v9 v10 ad=>∃ t acc j,t<=ws.length/\mm=ws.length-t/\v0=.box r 0/\v3=.box k 0/\v8=.vec ws.length .full (ws.map .str)/\v9=.int .i64 ws.length/\v10=.int .i64 (t:Nat)/\i0<=j/\Sk X az r k j kind text n m at_ acc ad/\Out X r az R (Bb X fu fin (ws.drop t) acc j),
  ⟨_,0,_,_,by omega,rfl,rfl,rfl,rfl,rfl,rfl,Eo,S,O⟩,?_⟩
 rintro mm v0 v3 v8 v9 v10 bF ⟨t,acc,j,ht,rfl,rfl,rfl,rfl,rfl,rfl,dV,S,O⟩;simp only[bX,ak,bJ];refine⟨λ aL=>?_,λ jW=>?_⟩
 . have aL:t<ws.length:=by omega
   have hd:(ws.map AV.str).drop (t*1)=.str ws[t]::(ws.map AV.str).drop (t+1):=by
    rw[Nat.mul_one,iq (by simpa using aL)]; simp
   have qX:ws.drop t=ws[t]::ws.drop (t+1):=iq aL;rw[qX]at O;simp only[QT,iJ,hd,rQ,bl];refine⟨by omega,?_⟩;unfold Bb at O;refine cQ S O λ bI S O=>?_;obtain⟨g1,g2⟩:=hF _ S.hi (by omega);refine fK S g1 g2 O λ ns j2 cj o7 uz S O=>?_;simp only[dm];refine⟨bD (by omega) (by omega),ws.length-(t+1),by omega,t+1,_,_,aL,rfl,rfl,rfl,rfl,rfl,rfl,by omega,S,O⟩
 . have:t=ws.length:=by omega
   subst this;rw[List.drop_length]at O;exact h _ _ _ S O
theorem Ky {fu:Nat} (hi:i<=X.L.length) (hF:gg X fu i):Ct X 158 i ((bq X.L zC i).bind λ _ j=>(bU X.L X.E fu j).bind λ c j=>(bq X.L xA j).bind λ _ j=>(bU X.L X.E fu j).bind λ a j=>(bq X.L mC j).bind λ _ j=>(bU X.L X.E fu j).bind λ b j=>.ok (node 10 [] 0 0 (cU X.L X.E i) (c++a++b)) j):=by
 intro r U R hr O;refine Nb ?_;unfold Na;refine eQ hr hi λ k bF S=>?_;rw[fw];refine⟨by omega,?_⟩;rw[dQ (o:=0) (s:=1) rfl];refine⟨⟨rfl,rfl,by simp[bN]⟩,?_⟩;rw[dQ (o:=1) (s:=1) rfl];refine⟨⟨rfl,rfl,by simp[bN,ax]⟩,?_⟩;rw[dQ (o:=2) (s:=1) rfl];refine⟨⟨rfl,rfl,by simp[bN,ax]⟩,?_⟩;rw[gw];refine⟨rfl,?_⟩;simp only[qN,ak];exact FR (fin:=λ acc j=>.ok (node 10 [] 0 0 (cU X.L X.E i) acc) j) hF [zC,xA,mC] (by simp) (cN _) S rfl O λ acc j ad S O=>du S O
theorem Tb {fu:Nat} (hi:i<=X.L.length) (hF:gg X fu i):Ct X 159 i ((bq X.L pA i).bind λ _ j=>(bU X.L X.E fu j).bind λ a j=>(bq X.L Ga j).bind λ _ j=>(bU X.L X.E fu j).bind λ b j=>.ok (node 11 [] 0 0 (cU X.L X.E i) (a++b)) j):=by
 intro r U R hr O;refine Nf ?_;unfold Nc;refine eQ hr hi λ k bF S=>?_;rw[fw];refine⟨by omega,?_⟩;rw[dQ (o:=0) (s:=1) rfl];refine⟨⟨rfl,rfl,by simp[bN]⟩,?_⟩;rw[dQ (o:=1) (s:=1) rfl];refine⟨⟨rfl,rfl,by simp[bN,ax]⟩,?_⟩;rw[gw];refine⟨rfl,?_⟩;simp only[qN,ak];exact FR (fin:=λ acc j=>.ok (node 11 [] 0 0 (cU X.L X.E i) acc) j) hF [pA,Ga] (by simp) (cN _) S rfl O λ acc j ad S O=>du S O
theorem jT {fu i0:Nat} {q:List Nd->Nat->PR (List Nd)} (hF:gg X fu i0) (h0:i0<i) (S:Sk X az r k i kind text n m at_ l U) (O:Out X r az R ((bU X.L X.E fu i).bind q))
 (h:∀ ns j ad,j<=X.L.length->i<j->Sk X az r k j kind text n m at_ (l++ns) ad->Out X r az R (q ns j)->K' (.box k 0) ad) :
 ae K 169 [.box r 0] U (aj (λ v U=>(aF (some (87,1)) (some [AV.aU]) 1 false [(0,v)]).wp K U (λ v U=>ae K 103 [.box k 0,v] U (aj K' (aa R))) (aa R)) (aa R)) :=
 fK S (hF _ S.hi h0).1 (hF _ S.hi h0).2 O h
theorem SN {fu:Nat} (hi:i<=X.L.length) (hF:gg X fu i):Ct X 160 i ((bq X.L yh i).bind λ _ j=>(eK X.L j).bind λ x j=>(bq X.L mQ j).bind λ _ j=>(fW X.L j).bind λ n j=>(bq X.L cJ j).bind λ _ j=>(fW X.L j).bind λ m j=>(bq X.L tc j).bind λ _ j=>(bU X.L X.E fu j).bind λ a j=>.ok (node 12 x n m (cU X.L X.E i) a) j):=by
 intro r U R hr O;refine Nh ?_;unfold Ng;refine eQ hr hi λ k bF S=>?_;simp only[bS,ak,aN,cq];refine cQ S O λ _ S O=>kG S O λ x _ S O=>kH S λ _ S=>cQ S O λ _ S O=>mw S O λ _ _ S O=>xp S λ _ S=>cQ S O λ _ S O=>mw S O λ _ _ S O=>abo S λ _ S=>cQ S O λ _ S O=>?_;exact jT hF (by omega) S O λ ns j cY hj dV S O=>du S O
theorem PB {fu:Nat} (hi:i<=X.L.length) (hF:gg X fu i):Ct X 161 i ((bq X.L qO i).bind λ _ j=>(eK X.L j).bind λ x j=>(bq X.L tc j).bind λ _ j=>(bU X.L X.E fu j).bind λ a j=>(bq X.L mC j).bind λ _ j=>(bU X.L X.E fu j).bind λ b j=>.ok (node 13 x 0 0 (cU X.L X.E i) (a++b)) j):=by
 intro r U R hr O;refine Nj ?_;unfold Ni;refine eQ hr hi λ k bF S=>?_;simp only[bS,ak,aN,cq];refine cQ S O λ _ S O=>kG S O λ x _ S O=>kH S λ _ S=>cQ S O λ _ S O=>?_;refine jT hF (by omega) S O λ ns j cY hj dV S O=>cQ S O λ _ S O=>?_;exact jT hF (by omega) S O λ ns j cY hj dV S O=>du S O
theorem Kz {fu:Nat} (hi:i<=X.L.length) (hF:gg X fu i):Ct X 162 i ((bq X.L py i).bind λ _ j=>(bU X.L X.E fu j).bind λ a j=>(bq X.L mC j).bind λ _ j=>(bU X.L X.E fu j).bind λ b j=>.ok (node 15 [] 0 0 (cU X.L X.E i) (a++b)) j):=by
 intro r U R hr O;refine Nl ?_;unfold Nk;refine eQ hr hi λ k bF S=>?_;refine cQ S O λ _ S O=>?_;refine jT hF (by omega) S O λ ns j cY hj dV S O=>cQ S O λ _ S O=>?_;exact jT hF (by omega) S O λ ns j cY hj dV S O=>du S O
theorem LR {fu:Nat} (hi:i<=X.L.length) (hF:gg X fu i):Ct X 163 i ((bq X.L pz i).bind λ _ j=>(eK X.L j).bind λ x j=>(bq X.L cJ j).bind λ _ j=>(fW X.L j).bind λ n j=>(bq X.L tc j).bind λ _ j=>(bU X.L X.E fu j).bind λ a j=>.ok (node 14 x n 0 (cU X.L X.E i) a) j):=by
 intro r U R hr O;refine No ?_;unfold Nn;refine eQ hr hi λ k bF S=>?_;simp only[bS,ak,aN,cq];refine cQ S O λ _ S O=>kG S O λ x _ S O=>kH S λ _ S=>cQ S O λ _ S O=>mw S O λ _ _ S O=>xp S λ _ S=>cQ S O λ _ S O=>?_;exact jT hF (by omega) S O λ ns j cY hj dV S O=>du S O
end
end Go.Rip
namespace Go.Rip
open Go.Proofs Go.RowKit
def iE:List (aT×Nat):=[(py,162),(zC,158),(qO,161),(yh,160),(pz,163),(pA,159)]
theorem IM:pb=.eD (iE.map λ p=>.str p.1) (iE.map λ p=>.func (.func p.2) [] []):=rfl
theorem sk (s:aT) (z:AV):∀ l:List (aT×AV),kX .s (.str s) z true (l.map λ p=>.str p.1) (l.map λ p=>p.2)=.val (.aQ [match l.find? (λ p=>p.1=s) with|some p=>p.2|none=>z,.bool (l.find? (λ p=>p.1=s)).isSome])
 | []=>rfl
 | p::l=>by
   simp only[dY,kX,fE,List.find?_cons]
   by_cases h:s=p.1
   . subst h; simp
   . have h':¬ p.1=s:=λ e=>h e.symm;simp only[h',dz];rw[show (s==p.1)=false by simp[h]];simpa using sk s z l
theorem IK (s:aT) (U:St):fB (some (.s,186)) (some AV.c6) pb (.str s) true U=.val (.aQ [match iE.find? (λ p=>p.1=s) with|some p=>.func (.func p.2) [] []|none=>.c6,.bool (iE.find? (λ p=>p.1=s)).isSome]):=by
 rw[IM];have:=sk s .c6 (iE.map λ p=>(p.1,AV.func (.func p.2) [] []));simp only[fB,kS,oI];rw[List.map_map,List.map_map]at this;rw[show (iE.map λ p=>AV.str p.1)=List.map ((λ p:aT×AV=>AV.str p.1) ∘ λ p=>(p.1,AV.func (.func p.2) [] [])) iE from rfl,show (iE.map λ p=>AV.func (.func p.2) [] [])=List.map ((λ p:aT×AV=>p.2) ∘ λ p=>(p.1,AV.func (.func p.2) [] [])) iE from rfl,this];congr 2;rw[List.find?_map];have e:((λ p:aT×AV=>decide (p.1=s)) ∘ λ p:aT×Nat=>(p.1,AV.func (.func p.2) [] []))=λ p=>decide (p.1=s):=rfl;rw[e];cases iE.find? λ p=>decide (p.1=s)<;>rfl
theorem yj (o:Option Tk):Pure K 61 [.agg (ox o)] (.bool (sS o [ep,fA,ef])):=by
 refine Pure.of ?_ rfl (λ U=>rfl) λ R hR=>?_
 . cases o<;>rfl
 refine Qa ?_;have ht:(ox o).length=3:=by cases o<;>rfl
 unfold R5;rw[fY rfl];intro b hb;rw[show au (.agg (ox o))=ox o from rfl,mR aI];refine⟨by simp[ht],?_⟩;rw[fw];refine⟨by omega,?_⟩;rw[dQ (o:=0) (s:=1) rfl];refine⟨⟨rfl,rfl,by simp[bN]⟩,?_⟩;rw[dQ (o:=1) (s:=1) rfl];refine⟨⟨rfl,rfl,by simp[bN,ax]⟩,?_⟩;rw[dQ (o:=2) (s:=1) rfl];refine⟨⟨rfl,rfl,by simp[bN,ax]⟩,?_⟩;rw[gw];refine⟨rfl,?_⟩;rw[dN,zl (by omega)];exact y7 (c:=.full) o [ep,fA,ef] (by simp) λ ad _=>aq.mk (hR ad)
theorem HY (L:List Tk) (i:Nat):sS L[i]? [ep,fA,ef]=dW L i:=by
 unfold sS dW bB;cases h:L[i]? with
 | none=>rfl
 | some t =>
   simp only[h];cases hk:(t.k==3||t.k==4) with
   | false=>simp
   | true =>
     simp only[Bool.true_and];rw[oP];simp[or_assoc]
section
variable {X:Rx} {az U:St} {r k i:Nat} {R:cM->St->Prop} {K':AV->St->Prop} {Kp:AV->St->Prop} {f:FuncId}
theorem XQ {ir:FuncId} (he:dG K.P ir=true) {c:List AV}:(gi K.P (.func (.func ir) [] []) [.box r 0]).wp K U K' Kp=ae K ir [.box r 0] U (aj K' Kp):=by
 simp[gi,he]
def Co (X:Rx) (i lev:Nat) (p:PR (List Nd)):Prop:=∀ (r:Nat) (U:St) (R:cM->St->Prop),U.box r=some (rd X i)->Out X r U R p->ae K 219 [.box r 0,.int .i64 (lev:Nat)] U R
theorem SU {s:aT} {p:aT×Nat} (h:iE.find? (λ p=>p.1=s)=some p):p∈iE/\p.1=s:=⟨List.mem_of_find?_eq_some h,by simpa using List.find?_some h⟩
theorem O3 {fu:Nat} (hi:i<=X.L.length) (hF:gg X fu i) (hO:Co X i 2 (eT X.L X.E fu 2 i)):Ct X 169 i (bU X.L X.E (fu+1) i):=by
 intro r U R hr O;refine Nx ?_;unfold Nw;refine nX hr hi 0 (by omega) λ bF e1=>?_;rw[Nat.add_zero];obtain⟨kd,s,a,e,hm⟩:=sA X.L[i]?;rw[e];simp only[bA,nK];intro b hb;have ED:=e1.bf hr;have e2:=e1.new (x:=.box [AV.int .u8 0,AV.str [],AV.int .i64 0]) hb;rw[show NV.at b .box=AV.box b 0 from rfl,cL aI];refine⟨⟨rfl,rfl,by simp⟩,?_⟩;have e3:=e2.set (x:=.box (ax [AV.int .u8 0,AV.str [],AV.int .i64 0] 0 (au (.agg [.int .u8 kd,.str s,.int .i64 a])))) (e1.fresh hb.1);generalize nD:(bF.new b (.box [AV.int .u8 0,AV.str [],AV.int .i64 0])).set b (.box (ax [AV.int .u8 0,AV.str [],AV.int .i64 0] 0 (au (.agg [.int .u8 kd,.str s,.int .i64 a]))))=cj at e3 ⊢;have kL:cj.box b=some [.int .u8 kd,.str s,.int .i64 a]:=by rw[<- nD,aX]; rfl
 have vE:=e3.bf hr;have A3:eP r (rd X i) U cj:=.pX hr e3
 replace O:=O.eU A3
 have fz:∀ t,X.L[i]?=some t->s=t.s/\kd=t.k:=λ t ht=>by
  rw[ht]at e; simp only[ox,jK,List.cons.injEq,AV.str.injEq,AV.int.injEq,true_and]at e; exact⟨e.2.1.symm,e.1.symm⟩
 simp only[bS,aD,aN,nk vE,rd,List.drop,fi,cq,nk kL,IK,bh,bj,aP,mN];have ZW:∀ w∈iE.map (·.1),bB X.L i w=true->kd=3/\s=w:=λ w hw h=>by
  have:∀ w∈iE.map (·.1),w∈ph:=by decide
  obtain⟨t,ht,hk,hs⟩:=SY X.ok (this w hw) h;obtain⟨h1,h2⟩:=fz t ht;exact⟨by omega,h1.trans hs⟩
 have fin:(¬ (kd=3/\s∈iE.map (·.1)))->(∀ w∈iE.map (·.1),bB X.L i w=false):=λ h w hw=>by
  cases hx:bB X.L i w with
  | false=>rfl
  | true=>obtain⟨h1,h2⟩:=ZW w hw hx; exact absurd ⟨h1,h2▸hw⟩ h
 by_cases hc:kd=3/\s∈iE.map (·.1)
 . obtain⟨h3,hs⟩:=hc;obtain⟨t,ht,hk,yB⟩:=(hm 3 (by omega)).1 h3;subst h3;have EL:bB X.L i s=true:=SZ ht (.inl hk) yB;have cv:∀ w∈iE.map (·.1),w≠s->¬ (bB X.L i w=true):=λ w hw hn h=>hn (ZW w hw h).2.symm;have key:∃ ir,iE.find? (λ p=>p.1=s)=some (s,ir)/\dG K.P ir=true/\∃ p,Ct X ir i p/\bU X.L X.E (fu+1) i=p:=by
    have hnd:bq X.L s i=.ok () (i+1):=by simp[bq,EL]
    have dK:s∈iE.map (·.1):=hs;simp only[iE,dY,lO,fe,List.not_mem_nil,or_false]at hs;rcases hs with rfl|rfl|rfl|rfl|rfl|rfl
    . exact⟨162,rfl,by kernel_rfl,_,Kz hi hF,by rw[bU,if_neg (cv _ (by decide) (by decide)),if_neg (cv _ (by decide) (by decide)),if_neg (cv _ (by decide) (by decide)),if_neg (cv _ (by decide) (by decide)),if_pos EL,hnd]; rfl⟩
    . exact⟨158,rfl,by kernel_rfl,_,Ky hi hF,by rw[bU,if_pos EL,hnd]; rfl⟩
    . exact⟨161,rfl,by kernel_rfl,_,PB hi hF,by rw[bU,if_neg (cv _ (by decide) (by decide)),if_neg (cv _ (by decide) (by decide)),if_neg (cv _ (by decide) (by decide)),if_pos EL,hnd]; rfl⟩
    . exact⟨160,rfl,by kernel_rfl,_,SN hi hF,by rw[bU,if_neg (cv _ (by decide) (by decide)),if_neg (cv _ (by decide) (by decide)),if_pos EL,hnd]; rfl⟩
    . exact⟨163,rfl,by kernel_rfl,_,LR hi hF,by rw[bU,if_neg (cv _ (by decide) (by decide)),if_neg (cv _ (by decide) (by decide)),if_neg (cv _ (by decide) (by decide)),if_neg (cv _ (by decide) (by decide)),if_neg (cv _ (by decide) (by decide)),if_pos EL,hnd]; rfl⟩
    . exact⟨159,rfl,by kernel_rfl,_,Tb hi hF,by rw[bU,if_neg (cv _ (by decide) (by decide)),if_pos EL,hnd]; rfl⟩
   obtain⟨ir,h1,h2,p,h3,h4⟩:=key;rw[h1];simp only[Option.isSome_some,ib,cn,aD,jq,nk kL,List.drop,fi,bw,dq,aO,if_true,ak,a8];rw[XQ h2 (c:=[])];rw[h4]at O;exact xZ h3 vE O
 . have hw:=fin hc;have hf:∀ w∈iE.map (·.1),¬ (bB X.L i w=true):=λ w h=>by rw[hw w h]; simp
   rw[bU,if_neg (hf _ (by decide)),if_neg (hf _ (by decide)),if_neg (hf _ (by decide)),if_neg (hf _ (by decide)),if_neg (hf _ (by decide)),if_neg (hf _ (by decide))]at O;have aas:∀ (c:Option (aT×Nat)) (A B:Prop),iE.find? (λ p=>p.1=s)=c->(c.isSome=true->kd≠3):=λ c A B h1 h2 h3=>by
    cases c with
    | none=>cases h2
    | some p=>exact hc ⟨h3,by obtain⟨k1,k2⟩:=SU h1; exact List.mem_map.2 ⟨p,k1,k2⟩⟩
   have sel:∀ (V:AV) (A B:Prop),B->aA (.bool false) A B:=λ _ _ _ hB=>by rw[aW]; exact hB
   have rest:j5 2
    (λ v0 hP U =>
      aA hP (
    ae K 99 [v0,(AV.int .u8 16)] U (aj (λ hU U =>
    ae K 101 [v0] U (aj (λ my U =>
    (aS hU).wp K U (λ oy U =>
    (ah (some 0) oy).wp K U (λ iV U =>
    (ah (some 1) iV).wp K U (λ p8 U =>
    (aG (some (false,1)) p8 my U).wp K U (λ _ U =>
    ae K 102 [v0,(AV.str cJ)] U (aj (λ v46 U =>
    ae K 169 [v0] U (aj (λ v49 U =>
    (aF (some (87,1)) (some [AV.aU]) 1 false [(0,v49)]).wp K U (λ vK U =>
    ae K 103 [hU,vK] U (aj (λ v51 U =>
    aq R v51 U) (aa R))) (aa R)) (aa R))) (aa R))) (aa R)) (aa R)) (aa R)) (aa R)) (aa R))) (aa R))) (
    ae K 219 [v0,(AV.int .i64 2)] U (aj (λ v53 U =>
    aq R v53 U) (aa R)))) (λ j =>
     ay.wp K cj
      (λ et U =>
        ay.wp K U
         (λ v30 U =>
           af K (aB v30 true) (ay.val (AV.box r 0)) λ jz =>
            aA (aB v30 true)
             (ae K 167 [jz,AV.int IntKind.i64 1] U
               (aj
                 (λ fU U =>
                   af K (aB v30 true)
                    (aF (some (9,1)) (some [AV.str []]) 1 false [(0,AV.str cJ)]) λ ix =>
                    af K (aB v30 true) (ay.enter 121 [fU,ix]) λ iU =>
                     ay.wp K U (λ pK U=>j (AV.box r 0) pK U) (aa R)
                      (bu v30 iU (AV.bool false)))
                 (aa R)))
             (af K (aB v30 true)
               (aF (some (9,1)) (some [AV.str []]) 1 false [(0,AV.str cJ)]) λ J4 =>
               af K (aB v30 true) (ay.enter 121 [AV.aQ [],J4]) λ AW =>
                ay.wp K U (λ pK U=>j (AV.box r 0) pK U) (aa R)
                 (bu v30 AW (AV.bool false))))
         (aa R)
         (aw BinOp.eql { b:=false,i:=false,p:=false,f:=none,s:=false } true et (AV.int IntKind.u8 1)))
      (aa R) (ar (some (false,1)) (AV.box b 0) cj)):=by
    intro j hj;have yes:nh X.L i 1=true->bB X.L (i+1) cJ=true->∀ cm,eP r (rd X i) cj cm->j (.box r 0) (.bool true) cm:=λ g1 g2 cm A4=>by
     refine hj _ _ _ ?_;rw[if_pos ⟨g1,g2⟩]at O
     replace O:=O.eU A4
     rw[a8];refine eQ A4.box hi λ k cY S=>?_;simp only[bS,ak,aN,cq];refine kG S O λ x _ S O=>kH S λ _ S=>cQ S O λ _ S O=>?_;exact jT hF (by omega) S O λ ns j cY hj dV S O=>du S O
    have no:¬ (nh X.L i 1=true/\bB X.L (i+1) cJ=true)->∀ cm,eP r (rd X i) cj cm->j (.box r 0) (.bool false) cm:=λ g cm A4=>by
     refine hj _ _ _ ?_;rw[if_neg g]at O
     replace O:=O.eU A4
     rw[aW];exact hO r cm _ A4.box ⟨λ ns j e hj a ad hk A=>aq.mk (O.ok ns j e hj a ad hk A),O.bad⟩
    have qZ:nh X.L i 1=decide (kd=1):=by
     unfold nh;cases ht:X.L[i]? with
     | none=>rw[ht]at e; simp only[ox,List.cons.injEq,AV.int.injEq,true_and]at e; simp[<- e.1]
     | some t=>obtain⟨_,h2⟩:=fz t ht; rw[h2]; rw[oP]; simp; omega
    rw[eO kL];simp only[List.drop,bl,bw,ak,bj]
    by_cases h1:kd=1
    . simp only[h1,dq,ib,aP,cn,aD,jq,a8];refine nX vE hi 1 (by omega) λ cm e4=>?_;simp only[bA];rw[zk];refine⟨by omega,?_⟩;rw[wY (o:=0) (s:=1) rfl];refine⟨⟨rfl,rfl,by simp[bN]⟩,?_⟩;rw[BI];refine⟨rfl,_,Jn (c:=.full) (X.L[i+1]?) [cJ] (by simp) rfl,?_⟩;rw[xU];simp only[aO,if_true,ak];cases HE:bB X.L (i+1) cJ with
      | true=>exact yes (by rw[qZ]; simp[h1]) HE _ (.pX vE e4)
      | false=>exact no (by rw[HE]; simp) _ (.pX vE e4)
    . have Hk:(decide (kd=1)==true)=false:=by simp[h1]
      simp only[Hk,aP,cz,aW,h1,dz,aO,bQ,if_false,ak];simp only[beq_true,cz,aW];exact no (by rw[qZ]; simp[h1]) _ ⟨vE,gR.refl _ _⟩
   cases tu:iE.find? (λ p=>p.1=s) with
   | none =>
     simp only[Option.isSome_none,cz,show (false==true)=false from rfl,aO,bQ,if_false,ak,aW];exact rest
   | some p =>
     have h3:¬ kd=3:=aas _ True True tu rfl;simp only[Option.isSome_some,ib,cn,aD,jq,nk kL,List.drop,fi,bw,h3,dz,aO,if_true,ak,aW];exact rest
end
end Go.Rip
namespace Go.Rip
open Go.Proofs Go.RowKit
def tN (lev:Nat):List (aT×Int) :=
 if lev=2 then [(Gc,17)] else if lev=3 then [(AZ,18)] else if lev=5 then [(ye,21),(pM,20)] else if lev=6 then [(yc,22),(yd,23)] else if lev=7 then [(yb,24)] else if lev=8 then [(F5,25)] else []
def RO (lev:Nat):AV:=.eD ((tN lev).map λ p=>.str p.1) ((tN lev).map λ p=>.int .u8 p.2)
theorem PM (lev:Nat) (h:lev=2\/lev=3\/lev=5\/lev=6\/lev=7\/lev=8) (U:St):fB (some (.i,185)) (some AV.ji) zi (.int .i64 (lev:Nat)) false U=.val (RO lev):=by
 rcases h with rfl|rfl|rfl|rfl|rfl|rfl<;>rfl
theorem PN (lev:Nat) (s:aT) (U:St):fB (some (.s,5)) (some (AV.int .u8 0)) (RO lev) (.str s) true U=.val (.aQ [.int .u8 (match (tN lev).find? (λ p=>p.1=s) with|some p=>p.2|none=>0),.bool ((tN lev).find? (λ p=>p.1=s)).isSome]):=by
 have:=sk s (.int .u8 0) ((tN lev).map λ p=>(p.1,AV.int .u8 p.2));rw[List.map_map,List.map_map,List.find?_map]at this;simp only[fB,kS,oI,RO];rw[show ((tN lev).map λ p=>AV.str p.1)=List.map ((λ p:aT×AV=>AV.str p.1) ∘ λ p=>(p.1,AV.int .u8 p.2)) (tN lev) from rfl,show ((tN lev).map λ p=>AV.int .u8 p.2)=List.map ((λ p:aT×AV=>p.2) ∘ λ p=>(p.1,AV.int .u8 p.2)) (tN lev) from rfl,this];have e:((λ p:aT×AV=>decide (p.1=s)) ∘ λ p:aT×Int=>(p.1,AV.int .u8 p.2))=λ p=>decide (p.1=s):=rfl;rw[e];cases (tN lev).find? λ p=>decide (p.1=s)<;>rfl
theorem HZ (L:List Tk) (lev i:Nat):oM L lev i=((tN lev).find? (λ p=>p.1=pv L[i]?)).map (·.2):=by
 have hw:∀ w:aT,w≠[]->bB L i w=decide (w=pv L[i]?):=λ w h=>by rw[Cw h]; simp[eq_comm]
 unfold oM tN;rw[hw Gc (by decide),hw AZ (by decide),hw pM (by decide),hw ye (by decide),hw yc (by decide),hw yd (by decide),hw yb (by decide),hw F5 (by decide)];generalize pv L[i]?=s
 repeat' split
 all_goals simp_all
 all_goals (subst_vars; rfl)
section
variable {X:Rx} {az U:St} {r k i:Nat} {kind:Int} {text:aT} {n m at_:Int} {l:List Nd} {R:cM->St->Prop} {K':AV->St->Prop} {Kp:AV->St->Prop}
theorem Ie (hr:U.box r=some (rd X i)) (hi:i<=X.L.length) (h:∀ ad,cG U ad->R (.ret (.str (pv X.L[i]?))) ad):ae K 253 [.box r 0] U R:=by
 refine N5 ?_;unfold N4;refine nX hr hi 0 (by omega) λ bF e1=>?_;rw[Nat.add_zero];have pG:∃ kd s a,ox X.L[i]?=[.int .u8 kd,.str s,.int .i64 a]/\pv X.L[i]?=if kd=3\/kd=4 then s else []:=by
  cases ht:X.L[i]? with
  | none=>exact⟨0,[],0,rfl,rfl⟩
  | some t =>
    refine⟨t.k,t.s,t.at_,rfl,?_⟩;have e3:((t.k:Int)=3)=(t.k=3):=by simp; omega
    have e4:((t.k:Int)=4)=(t.k=4):=by simp; omega
    simp only[pv,e3,e4]
 obtain⟨kd,s,a,e,hsg⟩:=pG;rw[e];rw[hsg]at h;simp only[bA,nK];intro b hb;have e2:=e1.new (x:=.box [AV.int .u8 0,AV.str [],AV.int .i64 0]) hb;rw[show NV.at b .box=AV.box b 0 from rfl,cL aI];refine⟨⟨rfl,rfl,by simp⟩,?_⟩;have e3:=e2.set (x:=.box (ax [AV.int .u8 0,AV.str [],AV.int .i64 0] 0 (au (.agg [.int .u8 kd,.str s,.int .i64 a])))) (e1.fresh hb.1);generalize nD:(bF.new b (.box [AV.int .u8 0,AV.str [],AV.int .i64 0])).set b (.box (ax [AV.int .u8 0,AV.str [],AV.int .i64 0] 0 (au (.agg [.int .u8 kd,.str s,.int .i64 a]))))=cj at e3 ⊢;have kL:cj.box b=some [.int .u8 kd,.str s,.int .i64 a]:=by rw[<- nD,aX]; rfl
 simp only[aN,ak,eO kL,List.drop,bl,cq,bw,bj,aP,mN,cn]
 by_cases h3:kd=3
 . subst h3;simp[eO kL,bl];exact aq.mk (h _ e3)
 . by_cases h4:kd=4
   . subst h4;simp[eO kL,nk kL,bl];exact aq.mk (h _ e3)
   . simp[eO kL,nk kL,bl,h3,h4];refine aq.mk ?_;have:=h _ e3;rw[if_neg (by omega)]at this;exact this
theorem Of (S:Sk X az r k i kind text n m at_ l U) (aL:i<X.L.length) {bt:BT} {lit:Bool} (h:∀ ad,Sk X az r k (i+1) kind text n m at_ l ad->K' (.aQ []) ad) :
 (ar (some (false,1)) (.box r 1) U).wp K U (λ v U=>(aw .add bt lit v (.int .i64 1)).wp K U (λ v U=>(aG (some (false,1)) (.box r 1) v U).wp K U K' Kp) Kp) Kp:=by
 have hs:=X.small;have hr:=S.A.box;simp only[eO hr,rd,List.drop,bl,dm];refine⟨bD (by omega) (by omega),?_⟩;rw[cL hr];refine⟨⟨rfl,rfl,by simp[rd]⟩,h _ (S.eU (j:=i+1) ⟨?_,(gR.refl r U).set (.inr rfl)⟩ aL (by omega))⟩;rw[aX]; simp[ax,rd]
theorem c7.ne_nil:∀ {b:Bool} {ks:List AV} {l:List Nd},c7 b ks l->b=true->l=[]->ks=[]:=by
 have h1:∀ {b:Bool} {ks:List AV} {l:List Nd},c7 b ks l->b=false->l≠[]:=λ h e=>by
  cases h with
  | mk _ _=>simp[node]
  | nil=>cases e
  | cons _ _=>cases e
 intro b ks l h e hl;cases h with
 | mk _ _=>cases e
 | nil=>rfl
 | cons a c=>exact absurd (List.append_eq_nil_iff.1 hl).1 (h1 a rfl)
theorem c7.cA {a:AV} {ns:List Nd} (hk:c7 false [a] ns):a.cA=true/\au a=[a]:=by
 generalize hb:false=b at hk;generalize hl:[a]=la at hk;cases hk with
 | mk _ _=>cases hl; exact⟨rfl,rfl⟩
 | nil=>cases hl
 | cons _ _=>cases hb
theorem FQ {a:AV} {ns:List Nd} (S:Sk X az r k i kind text n m at_ [] U) (hk:c7 false [a] ns) (h:∀ a' ad,c7 false [a'] (node kind text n m at_ ns)->eP r (rd X i) az ad->K' a' ad) :
 (aF (some (87,1)) (some [AV.aU]) 1 false [(0,a)]).wp K U (λ v U=>ae K 103 [.box k 0,v] U (aj K' Kp)) Kp:=by
 obtain⟨ks,h1,h2,h3⟩:=S.M;have:=h2.ne_nil rfl rfl;subst this;rw[fw];refine⟨by omega,?_⟩;rw[dQ (o:=0) (s:=1) rfl];refine⟨⟨hk.cA.1,by rw[hk.cA.2]; rfl,by simp[bN]⟩,?_⟩;rw[gw,hk.cA.2];refine⟨rfl,?_⟩;exact Ip (l2:=[a]) h1 S.A (by omega) rfl (by simp) λ ad M A=>M.done (h2.snoc hk) A λ a' ad hk A=>h a' ad hk A
theorem Qq {a b:AV} {ns ms:List Nd} (S:Sk X az r k i kind text n m at_ [] U) (hk:c7 false [a] ns) (fy:c7 false [b] ms) (h:∀ a' ad,c7 false [a'] (node kind text n m at_ (ns++ms))->eP r (rd X i) az ad->K' a' ad) :
 (aF (some (87,1)) (some [AV.aU]) 2 false [(0,a),(1,b)]).wp K U (λ v U=>ae K 103 [.box k 0,v] U (aj K' Kp)) Kp:=by
 obtain⟨ks,h1,h2,h3⟩:=S.M;have:=h2.ne_nil rfl rfl;subst this;rw[fw];refine⟨by omega,?_⟩;rw[dQ (o:=0) (s:=1) rfl];refine⟨⟨hk.cA.1,by rw[hk.cA.2]; rfl,by simp[bN]⟩,?_⟩;rw[hk.cA.2];rw[dQ (o:=1) (s:=1) rfl];refine⟨⟨fy.cA.1,by rw[fy.cA.2]; rfl,by simp[bN,ax]⟩,?_⟩;rw[gw,fy.cA.2];refine⟨rfl,?_⟩;exact Ip (l2:=[a,b]) h1 S.A (by omega) rfl (by simp) λ ad M A=>M.done (by simpa using (h2.snoc hk).snoc fy) A λ a' ad hk A=>h a' ad hk A
def DL (X:Rx) (fu:Nat):Prop:=∀ f',f'<=fu->∀ j lev,j<=X.L.length->2<=lev->lev<=9->40*(X.L.length-j)+(11-lev)<=f'->Co X j lev (eT X.L X.E f' lev j)/\Gd X.L.length (j+1) j (eT X.L X.E f' lev j)
theorem Ts {fu lev:Nat} (hi:i<=X.L.length) (h2:2<=lev) (h9:lev<=9) (hf:40*(X.L.length-i)+(11-lev)<=fu+1) (hA:lev=9->Ct X 252 i (js X.L X.E fu i)) (hS:DL X fu):Co X i lev (eT X.L X.E (fu+1) lev i):=by
 intro r U R hr O;refine NS ?_;unfold NR;have hs:=X.small;simp only[bw,ak,bJ];refine⟨λ e9=>?_,λ n9=>⟨λ e4=>?_,λ n4=>?_⟩⟩
 . have e9:lev=9:=by omega
   rw[eT,if_pos e9]at O;exact xZ (hA e9) hr O
 . have e4:lev=4:=by omega
   have n9:¬ lev=9:=by omega
   rw[eT,if_neg n9,if_pos e4]at O;refine eQ hr hi λ k bF S=>?_;refine oU S (λ hw bI S=>?_) λ hw bI S=>?_
   . rw[if_pos hw]at O;simp only[a8];have aL:=bp hw;obtain⟨g1,g2⟩:=hS fu (cN _) (i+1) 4 aL (by omega) (by omega) (by omega);refine g1 r bI _ S.A.box ⟨λ ns j e hj a ad hk A=>?_,λ j e ad A=>O.bad j (by rw[e]; rfl) ad (S.A.trans A)⟩;rw[e]at g2 O;have dV:i+1<j:=g2.1;refine FQ (S.eU A hj (by omega)) hk λ a' ad yA A'=>?_;exact aq.mk (O.ok _ _ rfl hj a' ad yA A')
   . rw[if_neg (by rw[hw]; simp)]at O;simp only[aW,dm];refine⟨bD (by omega) (by omega),?_⟩;obtain⟨g1,g2⟩:=hS fu (cN _) i 5 hi (by omega) (by omega) (by omega);subst e4;refine g1 r bI _ S.A.box ?_
     replace O:=O.eU S.A
     exact⟨λ ns j e hj a ad hk A=>aq.mk (O.ok ns j e hj a ad hk A),O.bad⟩
 . have n9:¬ lev=9:=by omega
   have n4:¬ lev=4:=by omega
   rw[eT,if_neg n9,if_neg n4]at O;rw[dm];refine⟨bD (by omega) (by omega),?_⟩;obtain⟨g1,g2⟩:=hS fu (cN _) i (lev+1) hi (by omega) (by omega) (by omega);rw[show ((lev:Nat):Int)+1=((lev+1:Nat):Int) by omega];refine g1 r U _ hr ⟨λ ns j e hj a bF hk A=>?_,λ j e ad A=>O.bad j (by rw[e]; rfl) ad A⟩;rw[e]at g2 O;have dV:i<j:=g2.1
   replace O:Out X r bF R (jS X.L X.E fu lev ns j):=Out.eU O A
   refine⟨λ mm v0 v1 v6 ad=>∃ left j f',mm=X.L.length-j/\v0=.box r 0/\v1=.int .i64 (lev:Nat)/\j<=X.L.length/\i<j/\40*(X.L.length-j)+1<=f'/\f'<=fu/\c7 false [v6] left/\ad.box r=some (rd X j)/\Out X r ad R (jS X.L X.E f' lev left j),
    ⟨_,ns,j,fu,rfl,rfl,rfl,hj,dV,by omega,cN _,hk,A.box,O⟩,?_⟩
   clear hk A O dV hj e g1 g2;rintro mm v0 v1 v6 bI ⟨left,j,f',rfl,rfl,rfl,hj,dV,Rc,VI,hk,ri,O⟩;cases f' with
   | zero=>omega
   | succ f' =>
     rw[jS,HZ]at O;simp only[bS,aD,aN,cq,nk ri,rd,List.drop,fi,PM lev (by omega)];refine Ie ri hj λ cj e3=>?_;simp only[bA];refine⟨?_,?_,?_⟩
     . intro b hb;simp only[dH,zi,iK,jn,lN,fe,List.not_mem_nil,or_false]at hb;subst hb;cases e:bI.live b with
       | none=>exact absurd e (dA ri)
       | some x=>exact e3 b x e
     . intro b hb;simp[dH,RO]at hb
     simp only[PN,aD,bh,List.drop,fi,dr,ak];have A3:eP r (rd X j) bI cj:=.pX ri e3;cases hop:(tN lev).find? λ p=>p.1=pv X.L[j]? with
     | none =>
       rw[hop]at O;simp only[Option.isSome_none,dZ,a8];exact aq.mk (O.ok _ _ rfl hj _ cj hk A3)
     | some p =>
       rw[hop]at O
       replace O:=O.eU A3
       simp only[Option.isSome_some,cT,aW];have aL:j<X.L.length:=BE (lev:=lev) (k:=p.2) (by rw[HZ,hop]; rfl);refine eQ A3.box hj λ k cm S=>?_;simp only[bS,ak,aN,cq];refine Of S aL λ cY S=>?_;simp only[bw,ak,bJ];simp only[Option.map_some]at O;refine⟨λ e8=>?_,λ n8=>?_⟩
       . have e8:lev=8:=by omega
         rw[if_pos e8]at O;refine mw S O λ x kP S O=>xp S λ jZ S=>?_;have iv:=S.hi;refine FQ S hk λ a' ad yA A'=>?_;exact⟨_,by omega,_,j+1+1,f',rfl,rfl,rfl,S.hi,by omega,by omega,by omega,yA,A'.box,O.eU A'⟩
       . have n8:¬ lev=8:=by omega
         rw[if_neg n8]at O;simp only[dm];refine⟨bD (by omega) (by omega),?_⟩;obtain⟨g1,g2⟩:=hS f' (by omega) (j+1) (lev+1) aL (by omega) (by omega) (by omega);rw[show ((lev:Nat):Int)+1=((lev+1:Nat):Int) by omega];refine g1 r cY _ S.A.box ⟨λ ns j2 e o7 b kP ZU A=>?_,λ j e ad A=>O.bad j (by rw[e]; rfl) ad (S.A.trans A)⟩;rw[e]at g2 O;have uz:j+1<j2:=g2.1;refine Qq (S.eU A o7 (by omega)) hk ZU λ a' ad yA A'=>?_
         replace O:Out X r cj R (if lev=5 then .ok (node p.2 [] 0 0 (cU X.L X.E j) (left++ns)) j2 else jS X.L X.E f' lev (node p.2 [] 0 0 (cU X.L X.E j) (left++ns)) j2):=O
         refine⟨λ e5=>?_,λ n5=>?_⟩
         . rw[if_pos (by omega)]at O;exact aq.mk (O.ok _ _ rfl o7 a' ad yA A')
         . rw[if_neg (by omega)]at O;exact⟨_,by omega,_,j2,f',rfl,rfl,rfl,o7,by omega,by omega,by omega,yA,A'.box,O.eU A'⟩
end
end Go.Rip
namespace Go.Rip
open Go.Proofs Go.RowKit
theorem c7.size {a:AV} {l:List Nd} (h:c7 false [a] l):∃ x r,l=x::r/\x.size=(l.length:Int):=by
 generalize hb:false=b at h;generalize hl:[a]=la at h;cases h with
 | mk _ _=>exact⟨_,_,rfl,by simp[node]⟩
 | nil=>cases hl
 | cons _ _=>cases hb
theorem c7.count:∀ {ks ks':List AV} {l:List Nd},c7 true ks l->c7 true ks' l->ks.length=ks'.length
 | [],ks',l,h,h'=>by
   have:l=[]:=by
    generalize hb:true=b at h;generalize hl:([]:List AV)=la at h;cases h with
    | mk _ _=>cases hb
    | nil=>rfl
    | cons _ _=>cases hl
   rw[h'.ne_nil rfl this]
 | a::ks,ks',l,h,h'=>by
   generalize hb:true=b at h;generalize hl:a::ks=la at h;cases h with
   | mk _ _=>cases hb
   | nil=>cases hl
   | @cons a1 ks1 l1 l2 h1 h2 =>
     cases hl;obtain⟨x,r,e1,e2⟩:=h1.size;generalize Ad:l1++l2=ll at h';generalize dR:true=b' at h';cases h' with
     | mk _ _=>cases dR
     | nil=>rw[e1]at Ad; cases Ad
     | @cons a3 ks3 l3 l4 h3 h4 =>
       obtain⟨y,r',e3,e4⟩:=h3.size;have yC:x=y:=by rw[e1,e3]at Ad; simpa using congrArg List.head? Ad
       have hlen:l1.length=l3.length:=by rw[yC]at e2; omega
       obtain⟨_,h24⟩:=List.append_inj Ad hlen;subst h24;simp[c7.count h2 h4]
section
variable {X:Rx} {az U:St} {r k i:Nat} {kind:Int} {text:aT} {n m at_:Int} {l:List Nd} {R:cM->St->Prop} {K':AV->St->Prop} {Kp:AV->St->Prop} {w:aT}
theorem Qs {q:Unit->Nat->PR (List Nd)} (hr:U.box r=some (rd X i)) (hi:i<=X.L.length) (O:Out X r U R ((bq X.L w i).bind q)) (h:∀ ad,i+1<=X.L.length->eP r (rd X (i+1)) U ad->Out X r ad R (q () (i+1))->K' (.aQ []) ad):ae K 102 [.box r 0,.str w] U (aj K' (aa R)) :=
 BC hr hi w (λ e hl ad A=>h ad hl A (by rw[e]at O; exact Out.eU O A)) λ e ad A=>O.bad _ (by rw[e]; rfl) _ A
theorem BS (S:Sk X az r k i kind text n m at_ l U) (hb:bB X.L i w=true) (h:∀ ad,Sk X az r k (i+1) kind text n m at_ l ad->K' (.aQ []) ad):ae K 102 [.box r 0,.str w] U (aj K' Kp) :=
 BC S.A.box S.hi w (λ e hl ad A=>h ad (S.eU A hl (by omega))) λ e ad A=>by simp[bq,hb]at e
structure Below (X:Rx) (fu:Nat):Prop where
 term:∀ f',f'<=fu->∀ j,j<=X.L.length->40*(X.L.length-j)+11<=f'->Ct X 109 j (fX X.L X.E f' j)
 first:∀ f',f'<=fu->∀ j,j<=X.L.length->40*(X.L.length-j)+10<=f'->Ct X 169 j (bU X.L X.E f' j)
 oper:∀ f',f'<=fu->∀ j lev,j<=X.L.length->2<=lev->lev<=9->40*(X.L.length-j)+(11-lev)<=f'->Co X j lev (eT X.L X.E f' lev j)
 atom:∀ f',f'<=fu->∀ j,j<=X.L.length->40*(X.L.length-j)+1<=f'->Ct X 252 j (js X.L X.E f' j)
 arg:∀ f',f'<=fu->∀ j,j<=X.L.length->40*(X.L.length-j)+12<=f'->Ct X 269 j (iz X.L X.E f' j)
theorem Below.KI {fu i:Nat} (B:Below X fu) (hf:40*(X.L.length-i)+10<=fu+40):gg X fu i:=λ j hj dV =>
 ⟨B.first fu (cN _) j hj (by omega),(sN fu).2.2.1 j hj (by omega)⟩
theorem Below.ops {fu:Nat} (B:Below X fu):DL X fu:=λ f' hf j lev hj h2 h9 he=>⟨B.oper f' hf j lev hj h2 h9 he,(sN f').2.2.2.1 j lev hj h9 he⟩
theorem SG {fu:Nat} (B:Below X fu) (he:40*(X.L.length-i)+12<=fu) {q:List Nd->Nat->PR (List Nd)} (S:Sk X az r k i kind text n m at_ l U) (O:Out X r az R ((iz X.L X.E fu i).bind λ a j=>(hY X.L X.E fu a j).bind q))
 (h:∀ ns j ad,j<=X.L.length->i<j->Sk X az r k j kind text n m at_ (l++ns) ad->Out X r az R (q ns j)->K' (.aQ []) ad):ae K 106 [.box r 0,.box k 0,.func (.func 269) [.box r 0] []] U (aj K' (aa R)):=by
 refine CU ?_;unfold FI;have jV:dG K.P 269=true:=by kernel_rfl
 rw[DJ jV (c:=[])];simp only[AA];have C:∀ f',f'<=fu->∀ j,j<=X.L.length->40*(X.L.length-j)+12<=f'->Ct X 269 j (iz X.L X.E f' j)/\Gd X.L.length (j+1) j (iz X.L X.E f' j):=λ f' h1 j h2 h3=>⟨B.arg f' h1 j h2 h3,(sN f').2.2.2.2.2.2.2 j h2 h3⟩;obtain⟨c1,c2⟩:=C fu (cN _) i S.hi he;refine fK S c1 c2 O λ ns j bF hj dV S1 O1=>?_;refine⟨λ mm v0 v1 v2 ad=>∃ acc j f',mm=X.L.length-j/\v0=.box r 0/\v1=.box k 0/\v2=.func (.func 269) [.box r 0] []/\j<=X.L.length/\i<j/\40*(X.L.length-j)+1<=f'/\f'<=fu/\Sk X az r k j kind text n m at_ (l++acc) ad/\Out X r az R ((hY X.L X.E f' acc j).bind q),
  ⟨_,ns,j,fu,rfl,rfl,rfl,rfl,hj,dV,by omega,cN _,S1,O1⟩,?_⟩
 rintro mm v0 v1 v2 bI ⟨acc,j2,f',rfl,rfl,rfl,rfl,o7,uz,VI,hf3,S2,O2⟩;cases f' with
 | zero=>omega
 | succ f' =>
   rw[hY]at O2;refine oU S2 (λ hw cj S3=>?_) (λ hw cj S3=>?_)
   . simp only[a8];rw[if_pos hw]at O2;have aL:=bp hw;rw[DJ jV (c:=[])];have e2:((iz X.L X.E f' (j2+1)).bind λ b j=>hY X.L X.E f' (acc++b) j).bind q=(iz X.L X.E f' (j2+1)).bind λ b j=>(hY X.L X.E f' (acc++b) j).bind q:=by
      cases iz X.L X.E f' (j2+1)<;>rfl
     rw[e2]at O2;obtain⟨c1,c2⟩:=C f' (by omega) _ aL (by omega);refine fK S3 c1 c2 O2 λ WN j3 cm VP aaG S4 O4=>?_;exact⟨_,by omega,acc++WN,j3,f',rfl,rfl,rfl,rfl,VP,by omega,by omega,by omega,by rw[<- nu]; exact S4,O4⟩
   . simp only[aW];rw[if_neg (by rw[hw]; simp)]at O2;exact aq.mk (h acc j2 cj o7 uz S3 O2)
theorem UY {fu:Nat} (B:Below X fu) (hi:i<=X.L.length) (he:40*(X.L.length-i)+12<=fu+1):Ct X 269 i (iz X.L X.E (fu+1) i):=by
 intro r U R hr O;refine N7 ?_;unfold N6;rw[iz]at O;have hs:=X.small;have hF:=B.KI (i:=i) (by omega);refine FP hr hi λ b bF hb A1=>?_
 replace O:=O.eU A1
 cases b with
 | true =>
   simp only[a8];rw[if_pos hb]at O;refine eQ A1.box hi λ k bI S=>?_;refine BS S hb λ cj S=>cQ S O λ cj S O=>?_;refine BA (by kernel_rfl) (λ i hi=>G4 hi) (λ i hi=>ui hi) (by omega) (by omega) S O λ ns j cm hj dV S O=>?_;refine cQ S O λ cY S O=>?_;exact jT hF (by omega) S O λ ns j cY hj dV S O=>du S O
 | false =>
   simp only[aW];rw[if_neg (by rw[hb]; simp)]at O;refine FP A1.box hi λ b2 bI hb2 A2=>?_
   replace O:=O.eU A2
   cases b2 with
   | true =>
     simp only[a8];rw[if_pos hb2]at O;refine eQ A2.box hi λ k bI S=>?_;refine BS S hb2 λ cj S=>cQ S O λ cj S O=>?_;refine jT hF (by omega) S O λ ns j cY hj dV S O=>cQ S O λ _ S O=>cQ S O λ _ S O=>?_;refine fK S (G4 S.hi) (ui S.hi) O λ ns j cY hj dV S O=>cQ S O λ _ S O=>?_;exact jT hF (by omega) S O λ ns j cY hj dV S O=>cQ S O λ _ S O=>du S O
   | false =>
     simp only[aW];rw[if_neg (by rw[hb2]; simp)]at O;exact xZ (B.term fu (cN _) i hi (by omega)) A2.box O
end
end Go.Rip
namespace Go.Rip
open Go.Proofs Go.RowKit
theorem ot {U:St} {b:Nat} {ks vs:List AV}:(U.set b (.mp ks vs)).mp b=some (ks,vs):=by simp[St.mp,eE]
theorem LN {U:St} {b:Nat} {ks vs:List AV}:(U.new b (.mp ks vs)).mp b=some (ks,vs):=by simp[St.mp,nS]
theorem JC {U ad:St} {b:Nat} (h:ad.live b=U.live b):ad.mp b=U.mp b:=by simp[St.mp,h]
theorem cG.mp {U ad:St} {b:Nat} {x:List AV×List AV} (h:cG U ad) (k:U.mp b=some x):ad.mp b=some x:=by
 cases e:U.live b with
 | none=>simp[St.mp,e]at k
 | some y=>rw[JC ((h b y e).trans e.symm)]; exact k
theorem ua {C:ck} {U:St} {K':AV->St->Prop} {Kp:AV->St->Prop} {m:Nat} {ks vs ks' vs':List AV} {s:aT} {v:AV} {t:TypeId} (h:U.mp m=some (ks,vs)) (hf:j0 .s (.str s) ks 0=some none) (hi:fp (.str s) v ks vs=(ks',vs')) :
 (iH (some (.s,t)) (.mp m) (.str s) v U).wp C U K' Kp=K' (.aQ []) (U.set m (.mp ks' vs')):=by
 simp only[iH,h,hf,oI,hi]; rfl
def pQ:List (aT×Int):=[(qI,32),(gK,28),(mD,30),(o4,31),(kJ,29),(gr,27)]
theorem SI (s:aT) {U:St} {m:Nat} (h:U.mp m=some (pQ.map λ p=>.str p.1,pQ.map λ p=>.int .u8 p.2)):fB (some (.s,5)) (some (AV.int .u8 0)) (.mp m) (.str s) true U=.val (.aQ [.int .u8 (match pQ.find? (λ p=>p.1=s) with|some p=>p.2|none=>0),.bool (pQ.find? (λ p=>p.1=s)).isSome]):=by
 have:=sk s (.int .u8 0) (pQ.map λ p=>(p.1,AV.int .u8 p.2));rw[List.map_map,List.map_map,List.find?_map]at this;simp only[fB,kS,oI,h];rw[show (pQ.map λ p=>AV.str p.1)=List.map ((λ p:aT×AV=>AV.str p.1) ∘ λ p=>(p.1,AV.int .u8 p.2)) pQ from rfl,show (pQ.map λ p=>AV.int .u8 p.2)=List.map ((λ p:aT×AV=>p.2) ∘ λ p=>(p.1,AV.int .u8 p.2)) pQ from rfl,this];have e:((λ p:aT×AV=>decide (p.1=s)) ∘ λ p:aT×Int=>(p.1,AV.int .u8 p.2))=λ p=>decide (p.1=s):=rfl;rw[e];cases pQ.find? λ p=>decide (p.1=s)<;>rfl
section
variable {X:Rx} {az U:St} {r k i:Nat} {kind:Int} {text:aT} {n m at_:Int} {l:List Nd} {R:cM->St->Prop} {K':AV->St->Prop} {Kp:AV->St->Prop} {w:aT}
theorem SJ {fu:Nat} (B:Below X fu) (hi:i<=X.L.length) (he:40*(X.L.length-i)+1<=fu+1):Ct X 252 i (js X.L X.E (fu+1) i):=by
 intro r U R hr O;refine N3 ?_;unfold N2;have hs:=X.small;rw[nK];intro mm Z0;have e1:cG U (U.new mm (.mp [] [])):=(cG.refl U).new Z0;have hn:=Z0.1;rw[show NV.at mm .mp=AV.mp mm from rfl];generalize Pt:U.new mm (.mp [] [])=bF at e1 ⊢;have m1:bF.mp mm=some ([],[]):=by rw[<- Pt]; exact LN
 rw[ua (ks':=[.str gr]) (vs':=[.int .u8 27]) m1 rfl rfl];rw[ua (ks':=[.str gK,.str gr]) (vs':=[.int .u8 28,.int .u8 27]) ot rfl rfl];rw[ua (ks':=[.str gK,.str kJ,.str gr]) (vs':=[.int .u8 28,.int .u8 29,.int .u8 27]) ot rfl rfl];rw[ua (ks':=[.str gK,.str mD,.str kJ,.str gr]) (vs':=[.int .u8 28,.int .u8 30,.int .u8 29,.int .u8 27]) ot rfl rfl];rw[ua (ks':=[.str gK,.str mD,.str o4,.str kJ,.str gr]) (vs':=[.int .u8 28,.int .u8 30,.int .u8 31,.int .u8 29,.int .u8 27]) ot rfl rfl];rw[ua (ks':=[.str qI,.str gK,.str mD,.str o4,.str kJ,.str gr]) (vs':=[.int .u8 32,.int .u8 28,.int .u8 30,.int .u8 31,.int .u8 29,.int .u8 27]) ot rfl rfl];have e2:=(((((e1.set (x:=.mp [.str gr] [.int .u8 27]) hn).set (x:=.mp [.str gK,.str gr] [.int .u8 28,.int .u8 27]) hn).set (x:=.mp [.str gK,.str kJ,.str gr] [.int .u8 28,.int .u8 29,.int .u8 27]) hn).set (x:=.mp [.str gK,.str mD,.str kJ,.str gr] [.int .u8 28,.int .u8 30,.int .u8 29,.int .u8 27]) hn).set (x:=.mp [.str gK,.str mD,.str o4,.str kJ,.str gr] [.int .u8 28,.int .u8 30,.int .u8 31,.int .u8 29,.int .u8 27]) hn).set (x:=.mp [.str qI,.str gK,.str mD,.str o4,.str kJ,.str gr] [.int .u8 32,.int .u8 28,.int .u8 30,.int .u8 31,.int .u8 29,.int .u8 27]) hn;generalize Pu:((((((bF.set mm (.mp [.str gr] [.int .u8 27])).set mm _).set mm _).set mm _).set mm _).set mm _)=bI at e2 ⊢;have m2:bI.mp mm=some (pQ.map λ p=>.str p.1,pQ.map λ p=>.int .u8 p.2):=by rw[<- Pu]; exact ot
 have ri:=e2.bf hr;refine Ie ri hi λ cj e3=>?_;simp only[bA,SI _ (e3.mp m2),ak,bh,List.drop,bl];have A3:eP r (rd X i) U cj:=.pX hr (e2.trans e3)
 replace O:=O.eU A3
 have hw:∀ w:aT,w≠[]->bB X.L i w=decide (w=pv X.L[i]?):=λ w h=>by rw[Cw h]; simp[eq_comm]
 rw[js,hw gr (by decide),hw gK (by decide),hw kJ (by decide),hw mD (by decide),hw o4 (by decide),hw qI (by decide)]at O;simp only[dJ]at O;cases Hj:pQ.find? λ p=>p.1=pv X.L[i]? with
 | some p =>
   simp only[Option.isSome_some,a8];have hp:p∈pQ:=List.mem_of_find?_eq_some Hj;have sb:p.1=pv X.L[i]?:=by simpa using List.find?_some Hj
   have cv:p.1≠[]:=by
    have:∀ p∈pQ,p.1≠[]:=by decide
    exact this p hp
   have aL:i<X.L.length:=bp (w:=p.1) (by rw[hw _ cv,sb]; simp);refine eQ A3.box hi λ k cm S=>?_;simp only[bS,ak,aN,cq];refine Of S aL λ cY S=>?_;intro j hj;simp only[bw,ak,bj,aP,mN,cn];rw[<- sb]at O;simp only[pQ,fe,List.not_mem_nil,or_false]at hp;have t1:(qI=gr)=False:=by simp; decide
   rcases hp with rfl|rfl|rfl|rfl|rfl|rfl
   . simp (decide:=true) only[if_false,if_true]at O;simp (decide:=true) [a8];exact kG S O λ x _ S O=>kH S λ _ S=>hj _ _ (du S O)
   . simp (decide:=true) only[if_false,if_true]at O;simp (decide:=true) [aW];exact hj _ _ (du S O)
   . simp (decide:=true) only[if_false,if_true]at O;simp (decide:=true) [aW];exact hj _ _ (du S O)
   . simp (decide:=true) only[if_false,if_true]at O;simp (decide:=true) [a8];exact kG S O λ x _ S O=>kH S λ _ S=>hj _ _ (du S O)
   . simp (decide:=true) only[if_false,if_true]at O;simp (decide:=true) [aW];exact hj _ _ (du S O)
   . simp (decide:=true) only[if_false,if_true]at O;simp (decide:=true) [aW];exact hj _ _ (du S O)
 | none =>
   simp only[Option.isSome_none,aW];have fL:∀ w∈pQ.map (·.1),¬ w=pv X.L[i]?:=λ w hw e=>by
    rw[List.find?_eq_none]at Hj;obtain⟨p,hp,rfl⟩:=List.mem_map.1 hw;simpa [e] using Hj p hp
   rw[if_neg (fL _ (by decide)),if_neg (fL _ (by decide)),if_neg (fL _ (by decide)),if_neg (fL _ (by decide)),if_neg (fL _ (by decide)),if_neg (fL _ (by decide))]at O;refine Fa A3.box hi jx (λ hb cm A4=>?_) (λ hb cm e4=>?_)
   . simp only[bA,a8];rw[if_pos hb]at O;have aL:=bp hb
     replace O:=O.eU A4
     have g2:=(sN (L:=X.L) (E:=X.E) fu).1 (i+1) aL (by omega);refine B.term fu (cN _) (i+1) aL (by omega) r cm _ A4.box ⟨λ ns j e hj a ad hk A=>?_,λ j e ad A=>O.bad j (by rw[e]; rfl) ad A⟩;rw[e]at O;refine Qs A.box hj (Out.eU O A) λ cY hj5 A5 O=>?_;exact aq.mk (O.ok _ _ rfl hj5 a cY hk ⟨A5.box,gR.refl _ _⟩)
   . simp only[bA,aW];rw[if_neg (by rw[hb]; simp)]at O;have A4:eP r (rd X i) cj cm:=.pX A3.box e4
     replace O:=O.eU A4
     refine nX A4.box hi 0 (by omega) λ cY e5=>?_;rw[Nat.add_zero];have A5:eP r (rd X i) cm cY:=.pX A4.box e5
     replace O:=O.eU A5
     obtain⟨kd,s,a,e,hm⟩:=sA X.L[i]?;rw[e];simp only[bA,IJ,List.drop,bl,bw,ak,bJ];have fy:nh X.L i 2=true↔kd=2:=by
      refine Iff.trans ?_ (hm 2 (by omega)).symm;unfold nh;cases ht:X.L[i]? with
      | none=>simp
      | some t =>
        rw[ht]at e; simp only[ox,jK,List.cons.injEq,AV.str.injEq,true_and]at e;simp[e.2.1]
     refine⟨λ h2=>?_,λ h2=>?_⟩
     . rw[if_pos (fy.2 h2)]at O;refine eQ A5.box hi λ k kP S=>?_;simp only[bS,ak,aN,cq];exact mw S O λ x _ S O=>xp S λ _ S=>du S O
     . rw[if_neg (λ h=>h2 (fy.1 h))]at O;refine eQ A5.box hi λ k kP S=>?_;simp only[bS,ak,aN,cq];refine kG S O λ x _ S O=>kH S λ _ S=>?_;intro j hj;refine oU S (λ hw jZ S=>?_) λ hw jZ S=>?_
       . simp only[a8];rw[if_pos hw]at O;have hh:=S.hi;refine xY S λ _ S=>SG B (by omega) S O λ ns j2 ue o7 uz S O=>?_;exact cQ S O λ _ S O=>hj _ _ (du S O)
       . simp only[aW];rw[if_neg (by rw[hw]; simp)]at O;exact hj _ _ (du S O)
end
end Go.Rip
namespace Go.Rip
open Go.Proofs Go.RowKit
section
variable {X:Rx} {az U:St} {r k i:Nat} {kind:Int} {text:aT} {n m at_:Int} {l:List Nd} {R:cM->St->Prop} {K':AV->St->Prop} {Kp:AV->St->Prop} {w:aT}
theorem TB {a:AV} {ns:List Nd} (S:Sk X az r k i kind text n m at_ [] U) (hi:1<=i) (hk:c7 false [a] ns) (h:∀ ad,Sk X az r k i kind text n m at_ ns ad->K' (.box k 0) ad) :
 (aF (some (87,1)) (some [AV.aU]) 1 false [(0,a)]).wp K U (λ v U=>ae K 103 [.box k 0,v] U (aj K' (aa R))) (aa R) :=
 FO S (λ ks h1 h2 h3=>⟨ks,h1,h2,by rw[h2.ne_nil rfl rfl]; simpa using hi⟩) hk λ ad S=>h ad (by simpa using S)
theorem Pb {U:St} {v:AV} {e sz n:Nat} {l:List AV} (h:Grow U v e sz n l):bR (some false) v=.val (.int .i64 n):=by
 rcases h with ⟨rfl,rfl,rfl⟩|⟨τ,rfl,_⟩<;>rfl
theorem TD {fu:Nat} (B:Below X fu) (hi:i<=X.L.length) (he:40*(X.L.length-i)+11<=fu+1):Ct X 109 i (fX X.L X.E (fu+1) i):=by
 intro r U R hr O;refine ME ?_;unfold MD;have hs:=X.small;rw[fX]at O;have g:=(sN (L:=X.L) (E:=X.E) fu).2.2.1 i hi (by omega);refine B.first fu (cN _) i hi (by omega) r U _ hr ⟨λ ns j e hj a bF hk A1=>?_,λ j e ad A=>O.bad j (by rw[e]; rfl) ad A⟩
 rw[e]at O g;have dV:i<j:=g.1;have O1:Out X r bF R (lQ X.L X.E fu (cU X.L X.E j) ns 1 j):=Out.eU O A1;clear O e g;refine eQ A1.box hj λ k bI S=>?_;refine TB S (by omega) hk λ cj S=>?_;intro jj yz;have fin:∀ (acc:List Nd) (many q:Nat) (ad:St),Sk X bF r k q 9 [] 0 0 (cU X.L X.E j) acc ad->(∃ ks,c7 true ks acc/\ks.length=many)->(many=1->acc=ns)->Out X r bF R (.ok (if many=1 then acc else node 9 [] 0 0 (cU X.L X.E j) acc) q)->jj a (.box k 0) ad:=by
  intro acc many q ad S ⟨ks0,hk0,tz⟩ h1 O;refine yz _ _ _ ?_;have hq':=S.hi;have hA':=S.A;obtain⟨ks,M,K5,hle⟩:=S.M;have hl:ks.length=many:=(K5.count hk0).trans tz;obtain⟨kv,b1,b2,b3,b4⟩:=M.box;simp only[bS,ak,aN,cq,eO b1,gz,List.drop,bl,Pb b2,bw,bJ,hl];refine⟨λ h=>?_,λ h=>?_⟩
  . have h:many=1:=by omega
    rw[if_pos h]at O;have:=h1 h;subst this;exact aq.mk (O.ok _ _ rfl hq' a ad hk hA')
  . rw[if_neg (by omega)]at O;exact du S O
 refine⟨λ mm v0 v3 v4 ad=>∃ acc many q f',mm=X.L.length-q/\v0=.box r 0/\v3=a/\v4=.box k 0/\i<q/\40*(X.L.length-q)+1<=f'/\f'<=fu/\Sk X bF r k q 9 [] 0 0 (cU X.L X.E j) acc ad/\(∃ ks,c7 true ks acc/\ks.length=many)/\(many=1->acc=ns)/\1<=many/\Out X r bF R (lQ X.L X.E f' (cU X.L X.E j) acc many q),
  ⟨_,ns,1,j,fu,rfl,rfl,rfl,rfl,dV,by omega,cN _,S,⟨[a],hk.one,rfl⟩,λ _=>rfl,cN _,O1⟩,?_⟩
 clear O1 S dV;rintro mm v0 v3 v4 cm ⟨acc,many,q,f',rfl,rfl,rfl,rfl,hiq,Rc,VI,S,kM,Hv,Rk,O⟩;cases f' with
 | zero=>omega
 | succ f' =>
   rw[lQ]at O;have hq:=S.hi;refine Og S λ b cY hb S=>?_;cases b with
   | false =>
     simp only[aW];rw[if_neg (by rw[hb]; simp)]at O;exact fin acc many q cY S kM Hv O
   | true =>
     simp only[a8];have aL:=bp hb;refine nX S.A.box hq 1 (by omega) λ kP e6=>?_;obtain⟨kd,s,at',e,hm⟩:=sA X.L[q+1]?;have Bt:kd=0↔X.L.length<=q+1:=by
      cases ht:X.L[q+1]? with
      | none =>
        rw[ht]at e; simp only[ox,List.cons.injEq,AV.int.injEq,true_and]at e;rw[List.getElem?_eq_none_iff]at ht;exact⟨λ _=>ht,λ _=>e.1.symm⟩
      | some t =>
        rw[ht]at e; simp only[ox,jK,List.cons.injEq,AV.int.injEq,true_and]at e;have:=(dp.1 ht).1;have hk:=(X.ok t (gA ht)).cases;constructor
        . intro h; omega
        . intro h; omega
     have Hl:=yj X.L[q+1]?;rw[HY]at Hl;rw[e]at Hl ⊢;simp only[bA,nK];intro b2 hb2;have e7:=e6.new (x:=.box [AV.int .u8 0,AV.str [],AV.int .i64 0]) hb2;rw[show NV.at b2 .box=AV.box b2 0 from rfl,cL aI];refine⟨⟨rfl,rfl,by simp⟩,?_⟩;have e8:=e7.set (x:=.box (ax [AV.int .u8 0,AV.str [],AV.int .i64 0] 0 (au (.agg [.int .u8 kd,.str s,.int .i64 at'])))) (e6.fresh hb2.1);generalize nD:(kP.new b2 (.box [AV.int .u8 0,AV.str [],AV.int .i64 0])).set b2 (.box (ax [AV.int .u8 0,AV.str [],AV.int .i64 0] 0 (au (.agg [.int .u8 kd,.str s,.int .i64 at']))))=ue at e8 ⊢;have qt:ue.box b2=some [.int .u8 kd,.str s,.int .i64 at']:=by rw[<- nD,aX]; rfl
     replace S:=S.eU (.pX S.A.box e8) hq (cN _)
     simp only[aN,ak,eO qt,List.drop,bl,cq,bw,bj,aP];have stop:¬ (q+1<X.L.length/\dW X.L (q+1)=false)->jj v3 (.box k 0) ue:=λ hn=>by
      rw[if_neg (λ h=>hn h.2)]at O;exact fin acc many q ue S kM Hv O
     by_cases h0:kd=0
     . simp only[h0,dq,show (true==false)=false from rfl,cz,aO,if_true,ak,a8];exact stop (λ h=>by have:=Bt.1 h0; omega)
     . simp only[h0,dz,ib,cn,AD qt,xf,jq,aO,bQ,if_false,ak];refine⟨by simp,_,Hl,?_⟩;cases hit:dW X.L (q+1) with
       | true=>simp only[a8]; exact stop (λ h=>by rw[hit]at h; cases h.2)
       | false =>
         simp only[aW];have Ew:q+1<X.L.length:=by
          rcases gI (q+1) X.L.length with h|h
          . exact h
          . exact absurd (Bt.2 h) h0
         rw[if_pos ⟨hb,Ew,hit⟩]at O;refine BS S hb λ qg S=>?_;have hF:gg X f' q:=λ j hj hqj=>⟨B.first f' (by omega) j hj (by omega),(sN f').2.2.1 j hj (by omega)⟩
         have Vz:∀ Aw a2,c7 false [a2] Aw->∃ ks,c7 true ks (acc++Aw)/\ks.length=many+1:=λ Aw a2 h=>by
          obtain⟨ks,h1,h2⟩:=kM;exact⟨ks++[a2],h1.snoc h,by simp[h2]⟩
         obtain⟨g1,g2⟩:=hF (q+1) aL (by omega);refine g1 r qg _ S.A.box ⟨λ Aw j2 e o7 a2 td fy A2=>?_,λ j e ad A=>O.bad j (by rw[e]; rfl) ad (S.A.trans A)⟩;rw[e]at g2 O;have hqj:q+1<j2:=g2.1;obtain⟨ks,M1,M2,M3⟩:=S.M;have S2:=S.eU A2 o7 (by omega);refine FO S2 (λ _ _ _ _=>⟨ks,M1.eU A2 S.A.box,M2,by omega⟩) fy λ ac7 S3=>?_;refine⟨_,?_,acc++Aw,many+1,j2,f',rfl,rfl,rfl,rfl,by omega,by omega,by omega,S3,Vz Aw a2 fy,λ h=>by omega,by omega,O⟩;omega
end
theorem below:∀ (X:Rx) (fu:Nat),Below X fu:=λ X fu=>by
 induction fu with
 | zero=>constructor<;>intros<;>omega
 | succ fu B =>
   have st:∀ {f':Nat},f'<=fu+1->f'<=fu\/f'=fu+1:=λ h=>by omega
   refine⟨λ f' hf j hj he=>?_,λ f' hf j hj he=>?_,λ f' hf j lev hj h2 h9 he=>?_,λ f' hf j hj he=>?_,λ f' hf j hj he=>?_⟩
   . rcases st hf with h|rfl
     . exact B.term f' h j hj he
     . exact TD B hj he
   . rcases st hf with h|rfl
     . exact B.first f' h j hj he
     . exact O3 hj (B.KI (by omega)) (B.oper fu (cN _) j 2 hj (by omega) (by omega) (by omega))
   . rcases st hf with h|rfl
     . exact B.oper f' h j lev hj h2 h9 he
     . exact Ts hj h2 h9 he (λ h=>B.atom fu (cN _) j hj (by omega)) B.ops
   . rcases st hf with h|rfl
     . exact B.atom f' h j hj he
     . exact SJ B hj he
   . rcases st hf with h|rfl
     . exact B.arg f' h j hj he
     . exact UY B hj he
theorem Pz (X:Rx) {i:Nat} (hi:i<=X.L.length):Ct X 55 i (eJ X.L X.E (fuel X.L) i):=by
 have hf:40*(X.L.length+2)=fuel X.L:=rfl;exact S5 hi (by omega) λ j hj dV=>⟨(below X _).term _ (cN _) j hj (by omega),(sN _).1 j hj (by omega)⟩
end Go.Rip
