/- Lemmas for the proof: no conditions. -/
import Derived.Test.YtnfpmiiopiinbaaGreatDoorRipZz
import Derived.Test.YtnfpmiiopiinbaaGreatDoorRipN
set_option linter.unusedVariables false
set_option linter.unusedSimpArgs false
set_option linter.loopingSimpArgs false
namespace Go.Rip
open Go.Proofs Go.RowKit
section
variable {X:Rx} {i:Nat}
theorem Ma {U:St} {r:Nat} {w:aG} {K':AV->St->Prop} {Kp:AV->St->Prop} (hr:U.box r=some (rd X i)) (hi:i<=X.L.length) (h:∀ b ad,bm X.L i w=b->iD r (rd X i) U ad->K' (.bool b) ad) :
 (au (some (9,1)) (some [AV.str []]) 1 false [(0,.str w)]).wp K U (λ v U=>ae K 105 [.box r 0,v] U (ah K' Kp)) Kp:=by
 rw[hZ];refine⟨by omega,?_⟩;rw[ff (o:=0) (s:=1) rfl];refine⟨⟨rfl,rfl,by simp[bT]⟩,?_⟩;rw[ja];refine⟨rfl,?_⟩;refine Qg (l:=[w]) hr hi (by simp) λ aS e1=>?_;exact h _ _ (by rw[Cp]) (.nS hr e1)
theorem Cx {U:St} {r:Nat} {R:cV->St->Prop} {f:FuncId} {p:PR (List Nd)} (C:Ct X f i p) (hr:U.box r=some (rd X i)) (O:Out X r U R p):ae K f [.box r 0] U (ah (λ v U=>aq R v U) (aa R)) :=
 C r U _ hr ⟨λ ns j e hj a ad hk A=>aq.mk (O.ok ns j e hj a ad hk A),O.bad⟩
theorem B5 (hi:i<=X.L.length):Ct X 108 i (gn X.L X.E i):=by
 intro r U R hr O;refine Ug ?_;unfold Uf;refine iu hr hi λ k aS S=>?_;simp only[bW,al,bh,db];intro j hj;unfold gn at O;refine sR S (λ h1 bf S=>?_) λ h1 bf S=>?_
 . rw[if_pos h1]at O;simp only[bH];exact BK S λ bR S=>hj _ _ (fi S O)
 rw[if_neg (by rw[h1]; simp)]at O;simp only[bq];refine sR S (λ h2 bf S=>?_) λ h2 bf S=>?_
 . rw[if_pos h2]at O;simp only[bH];exact BK S λ bR S=>hj _ _ (fi S O)
 rw[if_neg (by rw[h2]; simp)]at O;simp only[bq];refine sR S (λ h3 bf S=>?_) λ h3 bf S=>?_
 . rw[if_pos h3]at O;simp only[bH];exact qj S O λ x bR S O=>Cw S λ cP S=>BK S λ du S=>hj _ _ (fi S O)
 rw[if_neg (by rw[h3]; simp)]at O;simp only[bq];exact dM S O λ bR S O=>qj S O λ x bR S O=>BK S λ du S=>hj _ _ (fi S O)
theorem NA (hi:i<=X.L.length):Ct X 278 i (lS X.L X.E i):=by
 intro r U R hr O;refine V6 ?_;unfold V5;refine iu hr hi λ k aS S=>?_;simp only[bW,al,bh,db];exact oF S O λ x bR S O=>oG S λ du S=>fi S O
theorem Ou {f:Nat} (hi:i<=X.L.length) (hf:X.L.length<f):Ct X 104 i (jI X.L X.E f i):=by
 intro r U R hr O;refine Ub ?_;unfold Ua;refine Ma hr hi λ b aS hb A1=>?_
 replace O:=O.jR A1
 simp only[eT,al];unfold jI at O;cases b with
 | false =>
   simp only[fx,bH];rw[if_neg (by rw[hb]; simp)]at O;exact Cx (B5 hi) A1.box O
 | true =>
   simp only[dm,bq];rw[if_pos hb]at O;refine iu A1.box hi λ k bf S=>?_;have O':Out X r aS R ((bM X.L bK i).bind λ _ j=>(jW X.L (gn X.L X.E) f j).bind λ a j=>(bM X.L bJ j).bind λ _ j=>(bM X.L fY j).bind λ _ j=>(gn X.L X.E j).bind λ b j=>.ok (node 8 [] 0 0 (dv X.L X.E i) (a++b)) j):=by
    rw[show bM X.L bK i=.ok () (i+1) by simp[bM,hb]]; exact O
   refine dM S O' λ bR S O=>?_;refine Gt (by kernel_rfl) (λ i hi=>B5 hi) (λ i hi=>rC hi) (by omega) (by omega) S O λ ns j cP hj gq S O=>?_;refine dM S O λ du S O=>dM S O λ mh S O=>?_;exact jq S (B5 S.hi) (rC S.hi) O λ E9 j2 jk pN yY S O=>fi S O
theorem XX {f:Nat} (hi:i<=X.L.length) (hf:X.L.length<f):Ct X 107 i (j0 X.L X.E f i):=by
 intro r U R hr O;refine Ue ?_;unfold Ud;refine iu hr hi λ k aS S=>?_;simp only[bW,al,bh,db];refine oF S O λ x bf S O=>oG S λ bR S=>dM S O λ cP S O=>?_;exact jq S (Ou S.hi hf) (zd S.hi hf) O λ ns j du hj gq S O=>fi S O
theorem abw {f:Nat} (hi:i<=X.L.length) (hf:X.L.length<f) (hg:∀ j,j<=X.L.length->i<j->Ct X 109 j (ig X.L X.E f j)/\Gd X.L.length (j+1) j (ig X.L X.E f j)):Ct X 55 i (mN X.L X.E f i):=by
 intro r U R hr O;refine Ym ?_;unfold aar;unfold mN at O;refine iu hr hi λ k aS S=>?_;simp only[bW,al,bh,db];refine sR S (λ h1 bf S=>?_) λ h1 bf S=>?_
 . rw[if_pos h1]at O;simp only[bH];refine oF S O λ x bf S O=>oG S λ bR S=>dM S O λ cP S O=>?_;refine jq S (Ou S.hi hf) (zd S.hi hf) O λ ns j du hj gq S O=>?_;exact dM S O λ mh S O=>fi S O
 rw[if_neg (by rw[h1]; simp)]at O;simp only[bq];refine Cw S λ bR S=>?_;intro j hj;have rest:∀ (kk:Int) (p:Nat) (ad:St),i<p->Sk X U r k p kk [] 0 0 (dv X.L X.E i) [] ad->Out X r U R ((gX X.L p).bind λ x j=>(bM X.L bK j).bind λ _ j =>
  (if bm X.L j bJ=true then .ok [] j else jW X.L (j0 X.L X.E f) f j).bind λ a j =>
  (bM X.L bJ j).bind λ _ j=>(bM X.L dk j).bind λ _ j=>(gn X.L X.E j).bind λ b j=>(bM X.L gP j).bind λ _ j=>(ig X.L X.E f j).bind λ c j =>
  (bM X.L cC j).bind λ _ j=>.ok (node kk x 0 0 (dv X.L X.E i) (a++b++c)) j)->j (.box r 0) (.box k 0) ad:=by
  intro kk p ad hp S O;refine hj _ _ _ ?_;refine oF S O λ x bf S O=>?_;simp only[bW,al,bh,db];refine oG S λ bR S=>dM S O λ cP S O=>?_;intro j1 s9;have aae:∀ (ns:List Nd) (q:Nat) (ad:St),i<q->Sk X U r k q kk x 0 0 (dv X.L X.E i) ns ad->Out X r U R ((bM X.L bJ q).bind λ _ j=>(bM X.L dk j).bind λ _ j=>(gn X.L X.E j).bind λ b j=>(bM X.L gP j).bind λ _ j=>(ig X.L X.E f j).bind λ c j =>
   (bM X.L cC j).bind λ _ j=>.ok (node kk x 0 0 (dv X.L X.E i) (ns++b++c)) j)->j1 (.box r 0) (.box k 0) ad:=by
   intro ns q ad hq S O;refine s9 _ _ _ ?_;refine dM S O λ cP S O=>dM S O λ cP S O=>?_;refine jq S (B5 S.hi) (rC S.hi) O λ E9 j2 jk pN yY S O=>?_;refine dM S O λ cP S O=>?_;obtain⟨g1,g2⟩:=hg _ S.hi (by omega);exact jq S g1 g2 O λ E9 j2 jk pN yY S O=>dM S O λ cP S O=>fi S O
  refine We S λ b du hb S=>?_;simp only[eT,al];cases b with
  | false =>
    simp only[fx,bH];rw[if_neg (by rw[hb]; simp)]at O;have qX:=X.small;refine Gt (by kernel_rfl) (λ i hi=>XX hi hf) (λ i hi=>Il hi hf) (by omega) (by omega) S O λ ns j cP hj gq S O=>?_;exact aae _ _ _ (by omega) S O
  | true =>
    simp only[dm,bq];rw[if_pos hb]at O;exact aae _ _ _ (by omega) S O
 refine sR S (λ h2 cP S=>?_) λ h2 cP S=>?_
 . rw[if_pos h2]at O;simp only[bH];exact Cw S λ du S=>rest _ _ _ (by omega) S O
 . rw[if_neg (by rw[h2]; simp)]at O;simp only[bq];have e:∀ (p:PR Unit) (q:Int->Nat->PR (List Nd)),(p.bind λ _ j=>PR.ok (4:Int) j).bind q=p.bind λ _ j=>q 4 j:=λ p q=>by cases p<;>rfl
   rw[e]at O;exact dM S O λ du S O=>rest _ _ _ (by omega) S O
end
end Go.Rip
namespace Go.Rip
open Go.Proofs Go.RowKit
theorem Qf {c:mr} (o:Option Tk) (l:List aG) (hn:l.length<=100000) (hc:closed (.vec l.length c (l.map .str))=true):Pure K 121 [.agg (tc o),.vec l.length c (l.map .str)] (.bool (xu o l)):=by
 refine Pure.of ?_ rfl (λ U=>rfl) λ R hR=>DB o l hn λ ad _=>hR ad;have:closed (.agg (tc o))=true:=by cases o<;>rfl
 simp only[cD,this,hc,Bool.and_self]
section
variable {X:Rx} {ar U:St} {r k i:Nat} {kind:Int} {text:aG} {n m at_:Int} {l:List Nd} {R:cV->St->Prop} {K':AV->St->Prop} {Kp:AV->St->Prop} {w:aG} {f:FuncId}
def jQ (X:Rx) (f i:Nat):Prop:=∀ j,j<=X.L.length->i<j->Ct X 169 j (bF X.L X.E f j)/\Gd X.L.length (j+1) j (bF X.L X.E f j)
def FX (X:Rx) (f:Nat) (fin:List Nd->Nat->PR (List Nd)):List aG->List Nd->Nat->PR (List Nd)
 | [],acc,i=>fin acc i
 | w::ws,acc,i=>(bM X.L w i).bind λ _ j=>(bF X.L X.E f j).bind λ a j=>FX X f fin ws (acc++a) j
theorem Mc {fu i0:Nat} (hF:jQ X fu i0) {fin:List Nd->Nat->PR (List Nd)} (ws:List aG) (hw:ws.length<=10) (AW:i0<=i) (S:Sk X ar r k i kind text n m at_ l U) {ac:List Nd} (hac:ac=l) (O:Out X r ar R (FX X fu fin ws ac i))
 (h:∀ acc j ad,Sk X ar r k j kind text n m at_ acc ad->Out X r ar R (fin acc j)->aq R (.box k 0) ad) :
 fw 5 [.box r 0,.box k 0,.vec ws.length .full (ws.map .str),.int .i64 ws.length,.int .i64 0] U λ lp v0 v3 mK lM v10 U =>
 (aw .lss (BT.mk false false false none false) false v10 lM).wp K U (λ v11 U =>
 ax v11 (
  (aE (some (9,1)) none mK v10).wp K U (λ v12 U =>
  (ak (some (false,1)) v12 U).wp K U (λ cn U =>
  ae K 102 [v0,cn] U (ah (λ cQ U =>
  ae K 169 [v0] U (ah (λ dt U =>
  (au (some (87,1)) (some [AV.a8]) 1 false [(0,dt)]).wp K U (λ v20 U =>
  ae K 103 [v3,v20] U (ah (λ v21 U =>
  (aw .add (BT.mk false false false none false) true v10 (AV.int .i64 1)).wp K U (λ eo U =>
  lp v0 v3 mK lM eo U) (aa R)) (aa R))) (aa R)) (aa R))) (aa R))) (aa R)) (aa R)) (
  aq R v3 U)) (aa R):=by
 subst hac;refine⟨λ mm v0 v3 v8 v9 v10 ad=>∃ t acc j,t<=ws.length/\mm=ws.length-t/\v0=.box r 0/\v3=.box k 0/\v8=.vec ws.length .full (ws.map .str)/\v9=.int .i64 ws.length/\v10=.int .i64 (t:Nat)/\i0<=j/\Sk X ar r k j kind text n m at_ acc ad/\Out X r ar R (FX X fu fin (ws.drop t) acc j),
  ⟨_,0,_,_,by omega,rfl,rfl,rfl,rfl,rfl,rfl,AW,S,O⟩,?_⟩
 rintro mm v0 v3 v8 v9 v10 aS ⟨t,acc,j,ht,rfl,rfl,rfl,rfl,rfl,rfl,gq,S,O⟩;simp only[bV,al,cq];refine⟨λ aN=>?_,λ kV=>?_⟩
 . have aN:t<ws.length:=by omega
   have hd:(ws.map AV.str).drop (t*1)=.str ws[t]::(ws.map AV.str).drop (t+1):=by
    rw[Nat.mul_one,gM (by simpa using aN)]; simp
   have qV:ws.drop t=ws[t]::ws.drop (t+1):=gM aN;rw[qV]at O;simp only[zN,fW,hd,oK,bC];refine⟨by omega,?_⟩;unfold FX at O;refine dM S O λ bf S O=>?_;obtain⟨g1,g2⟩:=hF _ S.hi (by omega);refine jq S g1 g2 O λ ns j2 bR pN yY S O=>?_;simp only[dO];refine⟨bI (by omega) (by omega),ws.length-(t+1),by omega,t+1,_,_,aN,rfl,rfl,rfl,rfl,rfl,rfl,by omega,S,O⟩
 . have:t=ws.length:=by omega
   subst this;rw[List.drop_length]at O;exact h _ _ _ S O
theorem RP {fu:Nat} (hi:i<=X.L.length) (hF:jQ X fu i):Ct X 158 i ((bM X.L pg i).bind λ _ j=>(bF X.L X.E fu j).bind λ c j=>(bM X.L oL j).bind λ _ j=>(bF X.L X.E fu j).bind λ a j=>(bM X.L fe j).bind λ _ j=>(bF X.L X.E fu j).bind λ b j=>.ok (node 10 [] 0 0 (dv X.L X.E i) (c++a++b)) j):=by
 intro r U R hr O;refine UQ ?_;unfold UP;refine iu hr hi λ k aS S=>?_;rw[hZ];refine⟨by omega,?_⟩;rw[ff (o:=0) (s:=1) rfl];refine⟨⟨rfl,rfl,by simp[bT]⟩,?_⟩;rw[ff (o:=1) (s:=1) rfl];refine⟨⟨rfl,rfl,by simp[bT,ay]⟩,?_⟩;rw[ff (o:=2) (s:=1) rfl];refine⟨⟨rfl,rfl,by simp[bT,ay]⟩,?_⟩;rw[ja];refine⟨rfl,?_⟩;simp only[vj,al];exact Mc (fin:=λ acc j=>.ok (node 10 [] 0 0 (dv X.L X.E i) acc) j) hF [pg,oL,fe] (by simp) (bX _) S rfl O λ acc j ad S O=>fi S O
theorem abH {fu:Nat} (hi:i<=X.L.length) (hF:jQ X fu i):Ct X 159 i ((bM X.L gH i).bind λ _ j=>(bF X.L X.E fu j).bind λ a j=>(bM X.L sY j).bind λ _ j=>(bF X.L X.E fu j).bind λ b j=>.ok (node 11 [] 0 0 (dv X.L X.E i) (a++b)) j):=by
 intro r U R hr O;refine US ?_;unfold UR;refine iu hr hi λ k aS S=>?_;rw[hZ];refine⟨by omega,?_⟩;rw[ff (o:=0) (s:=1) rfl];refine⟨⟨rfl,rfl,by simp[bT]⟩,?_⟩;rw[ff (o:=1) (s:=1) rfl];refine⟨⟨rfl,rfl,by simp[bT,ay]⟩,?_⟩;rw[ja];refine⟨rfl,?_⟩;simp only[vj,al];exact Mc (fin:=λ acc j=>.ok (node 11 [] 0 0 (dv X.L X.E i) acc) j) hF [gH,sY] (by simp) (bX _) S rfl O λ acc j ad S O=>fi S O
theorem nO {fu i0:Nat} {q:List Nd->Nat->PR (List Nd)} (hF:jQ X fu i0) (h0:i0<i) (S:Sk X ar r k i kind text n m at_ l U) (O:Out X r ar R ((bF X.L X.E fu i).bind q))
 (h:∀ ns j ad,j<=X.L.length->i<j->Sk X ar r k j kind text n m at_ (l++ns) ad->Out X r ar R (q ns j)->K' (.box k 0) ad) :
 ae K 169 [.box r 0] U (ah (λ v U=>(au (some (87,1)) (some [AV.a8]) 1 false [(0,v)]).wp K U (λ v U=>ae K 103 [.box k 0,v] U (ah K' (aa R))) (aa R)) (aa R)) :=
 jq S (hF _ S.hi h0).1 (hF _ S.hi h0).2 O h
theorem aba {fu:Nat} (hi:i<=X.L.length) (hF:jQ X fu i):Ct X 160 i ((bM X.L lY i).bind λ _ j=>(gX X.L j).bind λ x j=>(bM X.L dk j).bind λ _ j=>(jo X.L j).bind λ n j=>(bM X.L bQ j).bind λ _ j=>(jo X.L j).bind λ m j=>(bM X.L kr j).bind λ _ j=>(bF X.L X.E fu j).bind λ a j=>.ok (node 12 x n m (dv X.L X.E i) a) j):=by
 intro r U R hr O;refine UU ?_;unfold UT;refine iu hr hi λ k aS S=>?_;simp only[bW,al,bh,db];refine dM S O λ _ S O=>oF S O λ x _ S O=>oG S λ _ S=>dM S O λ _ S O=>qj S O λ _ _ S O=>BK S λ _ S=>dM S O λ _ S O=>qj S O λ _ _ S O=>ajE S λ _ S=>dM S O λ _ S O=>?_;exact nO hF (by omega) S O λ ns j du hj gq S O=>fi S O
theorem XG {fu:Nat} (hi:i<=X.L.length) (hF:jQ X fu i):Ct X 161 i ((bM X.L jb i).bind λ _ j=>(gX X.L j).bind λ x j=>(bM X.L kr j).bind λ _ j=>(bF X.L X.E fu j).bind λ a j=>(bM X.L fe j).bind λ _ j=>(bF X.L X.E fu j).bind λ b j=>.ok (node 13 x 0 0 (dv X.L X.E i) (a++b)) j):=by
 intro r U R hr O;refine UX ?_;unfold UW;refine iu hr hi λ k aS S=>?_;simp only[bW,al,bh,db];refine dM S O λ _ S O=>oF S O λ x _ S O=>oG S λ _ S=>dM S O λ _ S O=>?_;refine nO hF (by omega) S O λ ns j du hj gq S O=>dM S O λ _ S O=>?_;exact nO hF (by omega) S O λ ns j du hj gq S O=>fi S O
theorem RQ {fu:Nat} (hi:i<=X.L.length) (hF:jQ X fu i):Ct X 162 i ((bM X.L ia i).bind λ _ j=>(bF X.L X.E fu j).bind λ a j=>(bM X.L fe j).bind λ _ j=>(bF X.L X.E fu j).bind λ b j=>.ok (node 15 [] 0 0 (dv X.L X.E i) (a++b)) j):=by
 intro r U R hr O;refine UZ ?_;unfold UY;refine iu hr hi λ k aS S=>?_;refine dM S O λ _ S O=>?_;refine nO hF (by omega) S O λ ns j du hj gq S O=>dM S O λ _ S O=>?_;exact nO hF (by omega) S O λ ns j du hj gq S O=>fi S O
theorem To {fu:Nat} (hi:i<=X.L.length) (hF:jQ X fu i):Ct X 163 i ((bM X.L iU i).bind λ _ j=>(gX X.L j).bind λ x j=>(bM X.L bQ j).bind λ _ j=>(jo X.L j).bind λ n j=>(bM X.L kr j).bind λ _ j=>(bF X.L X.E fu j).bind λ a j=>.ok (node 14 x n 0 (dv X.L X.E i) a) j):=by
 intro r U R hr O;refine U1 ?_;unfold U0;refine iu hr hi λ k aS S=>?_;simp only[bW,al,bh,db];refine dM S O λ _ S O=>oF S O λ x _ S O=>oG S λ _ S=>dM S O λ _ S O=>qj S O λ _ _ S O=>BK S λ _ S=>dM S O λ _ S O=>?_;exact nO hF (by omega) S O λ ns j du hj gq S O=>fi S O
end
end Go.Rip
namespace Go.Rip
open Go.Proofs Go.RowKit
def lU:List (aG×Nat):=[(ia,162),(pg,158),(jb,161),(lY,160),(iU,163),(gH,159)]
theorem PH:tu=.gJ (lU.map λ p=>.str p.1) (lU.map λ p=>.func (.func p.2) [] []):=rfl
theorem wL (s:aG) (z:AV):∀ l:List (aG×AV),oZ .s (.str s) z true (l.map λ p=>.str p.1) (l.map λ p=>p.2)=.val (.aK [match l.find? (λ p=>p.1=s) with|some p=>p.2|none=>z,.bool (l.find? (λ p=>p.1=s)).isSome])
 | []=>rfl
 | p::l=>by
   simp only[dH,oZ,jg,List.find?_cons]
   by_cases h:s=p.1
   . subst h; simp
   . have h':¬ p.1=s:=λ e=>h e.symm;simp only[h',eS];rw[show (s==p.1)=false by simp[h]];simpa using wL s z l
theorem PG (s:aG) (U:St):eQ (some (.s,186)) (some AV.eA) tu (.str s) true U=.val (.aK [match lU.find? (λ p=>p.1=s) with|some p=>.func (.func p.2) [] []|none=>.eA,.bool (lU.find? (λ p=>p.1=s)).isSome]):=by
 rw[PH];have:=wL s .eA (lU.map λ p=>(p.1,AV.func (.func p.2) [] []));simp only[eQ,lH,rn];rw[List.map_map,List.map_map]at this;rw[show (lU.map λ p=>AV.str p.1)=List.map ((λ p:aG×AV=>AV.str p.1) ∘ λ p=>(p.1,AV.func (.func p.2) [] [])) lU from rfl,show (lU.map λ p=>AV.func (.func p.2) [] [])=List.map ((λ p:aG×AV=>p.2) ∘ λ p=>(p.1,AV.func (.func p.2) [] [])) lU from rfl,this];congr 2;rw[List.find?_map];have e:((λ p:aG×AV=>decide (p.1=s)) ∘ λ p:aG×Nat=>(p.1,AV.func (.func p.2) [] []))=λ p=>decide (p.1=s):=rfl;rw[e];cases lU.find? λ p=>decide (p.1=s)<;>rfl
theorem MD (o:Option Tk):Pure K 61 [.agg (tc o)] (.bool (xu o [dY,gg,dQ])):=by
 refine Pure.of ?_ rfl (λ U=>rfl) λ R hR=>?_
 . cases o<;>rfl
 refine Yo ?_;have ht:(tc o).length=3:=by cases o<;>rfl
 unfold aat;rw[gd rfl];intro b hb;rw[show av (.agg (tc o))=tc o from rfl,ph aD];refine⟨by simp[ht],?_⟩;rw[hZ];refine⟨by omega,?_⟩;rw[ff (o:=0) (s:=1) rfl];refine⟨⟨rfl,rfl,by simp[bT]⟩,?_⟩;rw[ff (o:=1) (s:=1) rfl];refine⟨⟨rfl,rfl,by simp[bT,ay]⟩,?_⟩;rw[ff (o:=2) (s:=1) rfl];refine⟨⟨rfl,rfl,by simp[bT,ay]⟩,?_⟩;rw[ja];refine⟨rfl,?_⟩;rw[eG,qg (by omega)];exact DB (c:=.full) o [dY,gg,dQ] (by simp) λ ad _=>aq.mk (hR ad)
theorem abO (L:List Tk) (i:Nat):xu L[i]? [dY,gg,dQ]=uF L i:=by
 unfold xu uF bm;cases h:L[i]? with
 | none=>rfl
 | some t =>
   simp only[h];cases hk:(t.k==3||t.k==4) with
   | false=>simp
   | true =>
     simp only[Bool.true_and];rw[qO];simp[or_assoc]
section
variable {X:Rx} {ar U:St} {r k i:Nat} {R:cV->St->Prop} {K':AV->St->Prop} {Kp:AV->St->Prop} {f:FuncId}
theorem af1 {lN:FuncId} (he:fC K.P lN=true) {c:List AV}:(jz K.P (.func (.func lN) [] []) [.box r 0]).wp K U K' Kp=ae K lN [.box r 0] U (ah K' Kp):=by
 simp[jz,he]
def Co (X:Rx) (i lev:Nat) (p:PR (List Nd)):Prop:=∀ (r:Nat) (U:St) (R:cV->St->Prop),U.box r=some (rd X i)->Out X r U R p->ae K 219 [.box r 0,.int .i64 (lev:Nat)] U R
theorem abk {s:aG} {p:aG×Nat} (h:lU.find? (λ p=>p.1=s)=some p):p∈lU/\p.1=s:=⟨List.mem_of_find?_eq_some h,by simpa using List.find?_some h⟩
theorem W4 {fu:Nat} (hi:i<=X.L.length) (hF:jQ X fu i) (hO:Co X i 2 (eC X.L X.E fu 2 i)):Ct X 169 i (bF X.L X.E (fu+1) i):=by
 intro r U R hr O;refine Va ?_;unfold U9;refine rN hr hi 0 (by omega) λ aS e1=>?_;rw[Nat.add_zero];obtain⟨kd,s,a,e,hm⟩:=wX X.L[i]?;rw[e];simp only[bE,lR];intro b hb;have EJ:=e1.aY hr;have e2:=e1.new (x:=.box [AV.int .u8 0,AV.str [],AV.int .i64 0]) hb;rw[show NV.at b .box=AV.box b 0 from rfl,cI aD];refine⟨⟨rfl,rfl,by simp⟩,?_⟩;have e3:=e2.set (x:=.box (ay [AV.int .u8 0,AV.str [],AV.int .i64 0] 0 (av (.agg [.int .u8 kd,.str s,.int .i64 a])))) (e1.fresh hb.1);generalize qY:(aS.new b (.box [AV.int .u8 0,AV.str [],AV.int .i64 0])).set b (.box (ay [AV.int .u8 0,AV.str [],AV.int .i64 0] 0 (av (.agg [.int .u8 kd,.str s,.int .i64 a]))))=bR at e3 ⊢;have lu:bR.box b=some [.int .u8 kd,.str s,.int .i64 a]:=by rw[<- qY,aT]; rfl
 have Ad:=e3.aY hr;have A3:iD r (rd X i) U bR:=.nS hr e3
 replace O:=O.jR A3
 have gr:∀ t,X.L[i]?=some t->s=t.s/\kd=t.k:=λ t ht=>by
  rw[ht]at e; simp only[tc,jM,List.cons.injEq,AV.str.injEq,AV.int.injEq,true_and]at e; exact⟨e.2.1.symm,e.1.symm⟩
 simp only[bW,aJ,bh,tH Ad,rd,List.drop,jE,db,tH lu,PG,bp,bo,aP,sM];have ZB:∀ w∈lU.map (·.1),bm X.L i w=true->kd=3/\s=w:=λ w hw h=>by
  have:∀ w∈lU.map (·.1),w∈lW:=by decide
  obtain⟨t,ht,hk,hs⟩:=abq X.ok (this w hw) h;obtain⟨h1,h2⟩:=gr t ht;exact⟨by omega,h1.trans hs⟩
 have fin:(¬ (kd=3/\s∈lU.map (·.1)))->(∀ w∈lU.map (·.1),bm X.L i w=false):=λ h w hw=>by
  cases hx:bm X.L i w with
  | false=>rfl
  | true=>obtain⟨h1,h2⟩:=ZB w hw hx; exact absurd ⟨h1,h2▸hw⟩ h
 by_cases hc:kd=3/\s∈lU.map (·.1)
 . obtain⟨h3,hs⟩:=hc;obtain⟨t,ht,hk,rZ⟩:=(hm 3 (by omega)).1 h3;subst h3;have KO:bm X.L i s=true:=abr ht (.inl hk) rZ;have ca:∀ w∈lU.map (·.1),w≠s->¬ (bm X.L i w=true):=λ w hw hn h=>hn (ZB w hw h).2.symm;have key:∃ lN,lU.find? (λ p=>p.1=s)=some (s,lN)/\fC K.P lN=true/\∃ p,Ct X lN i p/\bF X.L X.E (fu+1) i=p:=by
    have hnd:bM X.L s i=.ok () (i+1):=by simp[bM,KO]
    have fp:s∈lU.map (·.1):=hs;simp only[lU,dH,oB,cK,List.not_mem_nil,or_false]at hs;rcases hs with rfl|rfl|rfl|rfl|rfl|rfl
    . exact⟨162,rfl,by kernel_rfl,_,RQ hi hF,by rw[bF,if_neg (ca _ (by decide) (by decide)),if_neg (ca _ (by decide) (by decide)),if_neg (ca _ (by decide) (by decide)),if_neg (ca _ (by decide) (by decide)),if_pos KO,hnd]; rfl⟩
    . exact⟨158,rfl,by kernel_rfl,_,RP hi hF,by rw[bF,if_pos KO,hnd]; rfl⟩
    . exact⟨161,rfl,by kernel_rfl,_,XG hi hF,by rw[bF,if_neg (ca _ (by decide) (by decide)),if_neg (ca _ (by decide) (by decide)),if_neg (ca _ (by decide) (by decide)),if_pos KO,hnd]; rfl⟩
    . exact⟨160,rfl,by kernel_rfl,_,aba hi hF,by rw[bF,if_neg (ca _ (by decide) (by decide)),if_neg (ca _ (by decide) (by decide)),if_pos KO,hnd]; rfl⟩
    . exact⟨163,rfl,by kernel_rfl,_,To hi hF,by rw[bF,if_neg (ca _ (by decide) (by decide)),if_neg (ca _ (by decide) (by decide)),if_neg (ca _ (by decide) (by decide)),if_neg (ca _ (by decide) (by decide)),if_neg (ca _ (by decide) (by decide)),if_pos KO,hnd]; rfl⟩
    . exact⟨159,rfl,by kernel_rfl,_,abH hi hF,by rw[bF,if_neg (ca _ (by decide) (by decide)),if_pos KO,hnd]; rfl⟩
   obtain⟨lN,h1,h2,p,h3,h4⟩:=key;rw[h1];simp only[Option.isSome_some,iY,cB,aJ,nw,tH lu,List.drop,jE,bA,dG,aQ,if_true,al,bH];rw[af1 h2 (c:=[])];rw[h4]at O;exact Cx h3 Ad O
 . have hw:=fin hc;have hf:∀ w∈lU.map (·.1),¬ (bm X.L i w=true):=λ w h=>by rw[hw w h]; simp
   rw[bF,if_neg (hf _ (by decide)),if_neg (hf _ (by decide)),if_neg (hf _ (by decide)),if_neg (hf _ (by decide)),if_neg (hf _ (by decide)),if_neg (hf _ (by decide))]at O;have air:∀ (c:Option (aG×Nat)) (A B:Prop),lU.find? (λ p=>p.1=s)=c->(c.isSome=true->kd≠3):=λ c A B h1 h2 h3=>by
    cases c with
    | none=>cases h2
    | some p=>exact hc ⟨h3,by obtain⟨k1,k2⟩:=abk h1; exact List.mem_map.2 ⟨p,k1,k2⟩⟩
   have sel:∀ (V:AV) (A B:Prop),B->ax (.bool false) A B:=λ _ _ _ hB=>by rw[bq]; exact hB
   have rest:jn 2
    (λ v0 ij U =>
      ax ij (
    ae K 99 [v0,(AV.int .u8 16)] U (ah (λ iZ U =>
    ae K 101 [v0] U (ah (λ kM U =>
    (aZ iZ).wp K U (λ fD U =>
    (af (some 0) fD).wp K U (λ kj U =>
    (af (some 1) kj).wp K U (λ lE U =>
    (aI (some (false,1)) lE kM U).wp K U (λ _ U =>
    ae K 102 [v0,(AV.str bQ)] U (ah (λ v46 U =>
    ae K 169 [v0] U (ah (λ v49 U =>
    (au (some (87,1)) (some [AV.a8]) 1 false [(0,v49)]).wp K U (λ ji U =>
    ae K 103 [iZ,ji] U (ah (λ v51 U =>
    aq R v51 U) (aa R))) (aa R)) (aa R))) (aa R))) (aa R)) (aa R)) (aa R)) (aa R)) (aa R))) (aa R))) (
    ae K 219 [v0,(AV.int .i64 2)] U (ah (λ v53 U =>
    aq R v53 U) (aa R)))) (λ j =>
     aC.wp K bR
      (λ ef U =>
        aC.wp K U
         (λ v30 U =>
           ao K (aM v30 true) (aC.val (AV.box r 0)) λ gl =>
            ax (aM v30 true)
             (ae K 167 [gl,AV.int IntKind.i64 1] U
               (ah
                 (λ gj U =>
                   ao K (aM v30 true)
                    (au (some (9,1)) (some [AV.str []]) 1 false [(0,AV.str bQ)]) λ hU =>
                    ao K (aM v30 true) (aC.enter 121 [gj,hU]) λ iC =>
                     aC.wp K U (λ rz U=>j (AV.box r 0) rz U) (aa R)
                      (bN v30 iC (AV.bool false)))
                 (aa R)))
             (ao K (aM v30 true)
               (au (some (9,1)) (some [AV.str []]) 1 false [(0,AV.str bQ)]) λ FJ =>
               ao K (aM v30 true) (aC.enter 121 [AV.aK [],FJ]) λ FL =>
                aC.wp K U (λ rz U=>j (AV.box r 0) rz U) (aa R)
                 (bN v30 FL (AV.bool false))))
         (aa R)
         (aw BinOp.eql { b:=false,i:=false,p:=false,f:=none,s:=false } true ef (AV.int IntKind.u8 1)))
      (aa R) (ak (some (false,1)) (AV.box b 0) bR)):=by
    intro j hj;have yes:rF X.L i 1=true->bm X.L (i+1) bQ=true->∀ cP,iD r (rd X i) bR cP->j (.box r 0) (.bool true) cP:=λ g1 g2 cP A4=>by
     refine hj _ _ _ ?_;rw[if_pos ⟨g1,g2⟩]at O
     replace O:=O.jR A4
     rw[bH];refine iu A4.box hi λ k du S=>?_;simp only[bW,al,bh,db];refine oF S O λ x _ S O=>oG S λ _ S=>dM S O λ _ S O=>?_;exact nO hF (by omega) S O λ ns j du hj gq S O=>fi S O
    have no:¬ (rF X.L i 1=true/\bm X.L (i+1) bQ=true)->∀ cP,iD r (rd X i) bR cP->j (.box r 0) (.bool false) cP:=λ g cP A4=>by
     refine hj _ _ _ ?_;rw[if_neg g]at O
     replace O:=O.jR A4
     rw[bq];exact hO r cP _ A4.box ⟨λ ns j e hj a ad hk A=>aq.mk (O.ok ns j e hj a ad hk A),O.bad⟩
    have rX:rF X.L i 1=decide (kd=1):=by
     unfold rF;cases ht:X.L[i]? with
     | none=>rw[ht]at e; simp only[tc,List.cons.injEq,AV.int.injEq,true_and]at e; simp[<- e.1]
     | some t=>obtain⟨_,h2⟩:=gr t ht; rw[h2]; rw[qO]; simp; omega
    rw[il lu];simp only[List.drop,bC,bA,al,bo]
    by_cases h1:kd=1
    . simp only[h1,dG,iY,aP,cB,aJ,nw,bH];refine rN Ad hi 1 (by omega) λ cP e4=>?_;simp only[bE];rw[zz];refine⟨by omega,?_⟩;rw[vR (o:=0) (s:=1) rfl];refine⟨⟨rfl,rfl,by simp[bT]⟩,?_⟩;rw[Cq];refine⟨rfl,_,Qf (c:=.full) (X.L[i+1]?) [bQ] (by simp) rfl,?_⟩;rw[Cp];simp only[aQ,if_true,al];cases Oc:bm X.L (i+1) bQ with
      | true=>exact yes (by rw[rX]; simp[h1]) Oc _ (.nS Ad e4)
      | false=>exact no (by rw[Oc]; simp) _ (.nS Ad e4)
    . have Hq:(decide (kd=1)==true)=false:=by simp[h1]
      simp only[Hq,aP,cN,bq,h1,eS,aQ,bZ,if_false,al];simp only[beq_true,cN,bq];exact no (by rw[rX]; simp[h1]) _ ⟨Ad,l8.refl _ _⟩
   cases x7:lU.find? (λ p=>p.1=s) with
   | none =>
     simp only[Option.isSome_none,cN,show (false==true)=false from rfl,aQ,bZ,if_false,al,bq];exact rest
   | some p =>
     have h3:¬ kd=3:=air _ True True x7 rfl;simp only[Option.isSome_some,iY,cB,aJ,nw,tH lu,List.drop,jE,bA,h3,eS,aQ,if_true,al,bq];exact rest
end
end Go.Rip
namespace Go.Rip
open Go.Proofs Go.RowKit
def yk (lev:Nat):List (aG×Int) :=
 if lev=2 then [(Ea,17)] else if lev=3 then [(zM,18)] else if lev=5 then [(ud,21),(gP,20)] else if lev=6 then [(ub,22),(sX,23)] else if lev=7 then [(u9,24)] else if lev=8 then [(uI,25)] else []
def opM (lev:Nat):AV:=.gJ ((yk lev).map λ p=>.str p.1) ((yk lev).map λ p=>.int .u8 p.2)
theorem XT (lev:Nat) (h:lev=2\/lev=3\/lev=5\/lev=6\/lev=7\/lev=8) (U:St):eQ (some (.i,185)) (some AV.kx) Bq (.int .i64 (lev:Nat)) false U=.val (opM lev):=by
 rcases h with rfl|rfl|rfl|rfl|rfl|rfl<;>rfl
theorem XU (lev:Nat) (s:aG) (U:St):eQ (some (.s,5)) (some (AV.int .u8 0)) (opM lev) (.str s) true U=.val (.aK [.int .u8 (match (yk lev).find? (λ p=>p.1=s) with|some p=>p.2|none=>0),.bool ((yk lev).find? (λ p=>p.1=s)).isSome]):=by
 have:=wL s (.int .u8 0) ((yk lev).map λ p=>(p.1,AV.int .u8 p.2));rw[List.map_map,List.map_map,List.find?_map]at this;simp only[eQ,lH,rn,opM];rw[show ((yk lev).map λ p=>AV.str p.1)=List.map ((λ p:aG×AV=>AV.str p.1) ∘ λ p=>(p.1,AV.int .u8 p.2)) (yk lev) from rfl,show ((yk lev).map λ p=>AV.int .u8 p.2)=List.map ((λ p:aG×AV=>p.2) ∘ λ p=>(p.1,AV.int .u8 p.2)) (yk lev) from rfl,this];have e:((λ p:aG×AV=>decide (p.1=s)) ∘ λ p:aG×Int=>(p.1,AV.int .u8 p.2))=λ p=>decide (p.1=s):=rfl;rw[e];cases (yk lev).find? λ p=>decide (p.1=s)<;>rfl
theorem OK (L:List Tk) (lev i:Nat):ox L lev i=((yk lev).find? (λ p=>p.1=tM L[i]?)).map (·.2):=by
 have hw:∀ w:aG,w≠[]->bm L i w=decide (w=tM L[i]?):=λ w h=>by rw[HH h]; simp[eq_comm]
 unfold ox yk;rw[hw Ea (by decide),hw zM (by decide),hw gP (by decide),hw ud (by decide),hw ub (by decide),hw sX (by decide),hw u9 (by decide),hw uI (by decide)];generalize tM L[i]?=s
 repeat' split
 all_goals simp_all
 all_goals (subst_vars; rfl)
section
variable {X:Rx} {ar U:St} {r k i:Nat} {kind:Int} {text:aG} {n m at_:Int} {l:List Nd} {R:cV->St->Prop} {K':AV->St->Prop} {Kp:AV->St->Prop}
theorem OX (hr:U.box r=some (rd X i)) (hi:i<=X.L.length) (h:∀ ad,cX U ad->R (.ret (.str (tM X.L[i]?))) ad):ae K 253 [.box r 0] U R:=by
 refine VY ?_;unfold VX;refine rN hr hi 0 (by omega) λ aS e1=>?_;rw[Nat.add_zero];have tW:∃ kd s a,tc X.L[i]?=[.int .u8 kd,.str s,.int .i64 a]/\tM X.L[i]?=if kd=3\/kd=4 then s else []:=by
  cases ht:X.L[i]? with
  | none=>exact⟨0,[],0,rfl,rfl⟩
  | some t =>
    refine⟨t.k,t.s,t.at_,rfl,?_⟩;have e3:((t.k:Int)=3)=(t.k=3):=by simp; omega
    have e4:((t.k:Int)=4)=(t.k=4):=by simp; omega
    simp only[tM,e3,e4]
 obtain⟨kd,s,a,e,hsg⟩:=tW;rw[e];rw[hsg]at h;simp only[bE,lR];intro b hb;have e2:=e1.new (x:=.box [AV.int .u8 0,AV.str [],AV.int .i64 0]) hb;rw[show NV.at b .box=AV.box b 0 from rfl,cI aD];refine⟨⟨rfl,rfl,by simp⟩,?_⟩;have e3:=e2.set (x:=.box (ay [AV.int .u8 0,AV.str [],AV.int .i64 0] 0 (av (.agg [.int .u8 kd,.str s,.int .i64 a])))) (e1.fresh hb.1);generalize qY:(aS.new b (.box [AV.int .u8 0,AV.str [],AV.int .i64 0])).set b (.box (ay [AV.int .u8 0,AV.str [],AV.int .i64 0] 0 (av (.agg [.int .u8 kd,.str s,.int .i64 a]))))=bR at e3 ⊢;have lu:bR.box b=some [.int .u8 kd,.str s,.int .i64 a]:=by rw[<- qY,aT]; rfl
 simp only[bh,al,il lu,List.drop,bC,db,bA,bo,aP,sM,cB]
 by_cases h3:kd=3
 . subst h3;simp[il lu,bC];exact aq.mk (h _ e3)
 . by_cases h4:kd=4
   . subst h4;simp[il lu,tH lu,bC];exact aq.mk (h _ e3)
   . simp[il lu,tH lu,bC,h3,h4];refine aq.mk ?_;have:=h _ e3;rw[if_neg (by omega)]at this;exact this
theorem Wd (S:Sk X ar r k i kind text n m at_ l U) (aN:i<X.L.length) {bt:BT} {lit:Bool} (h:∀ ad,Sk X ar r k (i+1) kind text n m at_ l ad->K' (.aK []) ad) :
 (ak (some (false,1)) (.box r 1) U).wp K U (λ v U=>(aw .add bt lit v (.int .i64 1)).wp K U (λ v U=>(aI (some (false,1)) (.box r 1) v U).wp K U K' Kp) Kp) Kp:=by
 have hs:=X.small;have hr:=S.A.box;simp only[il hr,rd,List.drop,bC,dO];refine⟨bI (by omega) (by omega),?_⟩;rw[cI hr];refine⟨⟨rfl,rfl,by simp[rd]⟩,h _ (S.jR (j:=i+1) ⟨?_,(l8.refl r U).set (.inr rfl)⟩ aN (by omega))⟩;rw[aT]; simp[ay,rd]
theorem eV.ne_nil:∀ {b:Bool} {ks:List AV} {l:List Nd},eV b ks l->b=true->l=[]->ks=[]:=by
 have h1:∀ {b:Bool} {ks:List AV} {l:List Nd},eV b ks l->b=false->l≠[]:=λ h e=>by
  cases h with
  | mk _ _=>simp[node]
  | nil=>cases e
  | cons _ _=>cases e
 intro b ks l h e hl;cases h with
 | mk _ _=>cases e
 | nil=>rfl
 | cons a c=>exact absurd (List.append_eq_nil_iff.1 hl).1 (h1 a rfl)
theorem eV.dw {a:AV} {ns:List Nd} (hk:eV false [a] ns):a.dw=true/\av a=[a]:=by
 generalize hb:false=b at hk;generalize hl:[a]=la at hk;cases hk with
 | mk _ _=>cases hl; exact⟨rfl,rfl⟩
 | nil=>cases hl
 | cons _ _=>cases hb
theorem Mb {a:AV} {ns:List Nd} (S:Sk X ar r k i kind text n m at_ [] U) (hk:eV false [a] ns) (h:∀ a' ad,eV false [a'] (node kind text n m at_ ns)->iD r (rd X i) ar ad->K' a' ad) :
 (au (some (87,1)) (some [AV.a8]) 1 false [(0,a)]).wp K U (λ v U=>ae K 103 [.box k 0,v] U (ah K' Kp)) Kp:=by
 obtain⟨ks,h1,h2,h3⟩:=S.M;have:=h2.ne_nil rfl rfl;subst this;rw[hZ];refine⟨by omega,?_⟩;rw[ff (o:=0) (s:=1) rfl];refine⟨⟨hk.dw.1,by rw[hk.dw.2]; rfl,by simp[bT]⟩,?_⟩;rw[ja,hk.dw.2];refine⟨rfl,?_⟩;exact Pe (l2:=[a]) h1 S.A (by omega) rfl (by simp) λ ad M A=>M.done (h2.snoc hk) A λ a' ad hk A=>h a' ad hk A
theorem YH {a b:AV} {ns ms:List Nd} (S:Sk X ar r k i kind text n m at_ [] U) (hk:eV false [a] ns) (gD:eV false [b] ms) (h:∀ a' ad,eV false [a'] (node kind text n m at_ (ns++ms))->iD r (rd X i) ar ad->K' a' ad) :
 (au (some (87,1)) (some [AV.a8]) 2 false [(0,a),(1,b)]).wp K U (λ v U=>ae K 103 [.box k 0,v] U (ah K' Kp)) Kp:=by
 obtain⟨ks,h1,h2,h3⟩:=S.M;have:=h2.ne_nil rfl rfl;subst this;rw[hZ];refine⟨by omega,?_⟩;rw[ff (o:=0) (s:=1) rfl];refine⟨⟨hk.dw.1,by rw[hk.dw.2]; rfl,by simp[bT]⟩,?_⟩;rw[hk.dw.2];rw[ff (o:=1) (s:=1) rfl];refine⟨⟨gD.dw.1,by rw[gD.dw.2]; rfl,by simp[bT,ay]⟩,?_⟩;rw[ja,gD.dw.2];refine⟨rfl,?_⟩;exact Pe (l2:=[a,b]) h1 S.A (by omega) rfl (by simp) λ ad M A=>M.done (by simpa using (h2.snoc hk).snoc gD) A λ a' ad hk A=>h a' ad hk A
def JA (X:Rx) (fu:Nat):Prop:=∀ f',f'<=fu->∀ j lev,j<=X.L.length->2<=lev->lev<=9->40*(X.L.length-j)+(11-lev)<=f'->Co X j lev (eC X.L X.E f' lev j)/\Gd X.L.length (j+1) j (eC X.L X.E f' lev j)
theorem ab0 {fu lev:Nat} (hi:i<=X.L.length) (h2:2<=lev) (h9:lev<=9) (hf:40*(X.L.length-i)+(11-lev)<=fu+1) (hA:lev=9->Ct X 252 i (gI X.L X.E fu i)) (hS:JA X fu):Co X i lev (eC X.L X.E (fu+1) lev i):=by
 intro r U R hr O;refine VA ?_;unfold Vz;have hs:=X.small;simp only[bA,al,cq];refine⟨λ e9=>?_,λ n9=>⟨λ e4=>?_,λ n4=>?_⟩⟩
 . have e9:lev=9:=by omega
   rw[eC,if_pos e9]at O;exact Cx (hA e9) hr O
 . have e4:lev=4:=by omega
   have n9:¬ lev=9:=by omega
   rw[eC,if_neg n9,if_pos e4]at O;refine iu hr hi λ k aS S=>?_;refine sR S (λ hw bf S=>?_) λ hw bf S=>?_
   . rw[if_pos hw]at O;simp only[bH];have aN:=dI hw;obtain⟨g1,g2⟩:=hS fu (bX _) (i+1) 4 aN (by omega) (by omega) (by omega);refine g1 r bf _ S.A.box ⟨λ ns j e hj a ad hk A=>?_,λ j e ad A=>O.bad j (by rw[e]; rfl) ad (S.A.trans A)⟩;rw[e]at g2 O;have gq:i+1<j:=g2.1;refine Mb (S.jR A hj (by omega)) hk λ a' ad x9 A'=>?_;exact aq.mk (O.ok _ _ rfl hj a' ad x9 A')
   . rw[if_neg (by rw[hw]; simp)]at O;simp only[bq,dO];refine⟨bI (by omega) (by omega),?_⟩;obtain⟨g1,g2⟩:=hS fu (bX _) i 5 hi (by omega) (by omega) (by omega);subst e4;refine g1 r bf _ S.A.box ?_
     replace O:=O.jR S.A
     exact⟨λ ns j e hj a ad hk A=>aq.mk (O.ok ns j e hj a ad hk A),O.bad⟩
 . have n9:¬ lev=9:=by omega
   have n4:¬ lev=4:=by omega
   rw[eC,if_neg n9,if_neg n4]at O;rw[dO];refine⟨bI (by omega) (by omega),?_⟩;obtain⟨g1,g2⟩:=hS fu (bX _) i (lev+1) hi (by omega) (by omega) (by omega);rw[show ((lev:Nat):Int)+1=((lev+1:Nat):Int) by omega];refine g1 r U _ hr ⟨λ ns j e hj a aS hk A=>?_,λ j e ad A=>O.bad j (by rw[e]; rfl) ad A⟩;rw[e]at g2 O;have gq:i<j:=g2.1
   replace O:Out X r aS R (lK X.L X.E fu lev ns j):=Out.jR O A
   refine⟨λ mm v0 v1 v6 ad=>∃ left j f',mm=X.L.length-j/\v0=.box r 0/\v1=.int .i64 (lev:Nat)/\j<=X.L.length/\i<j/\40*(X.L.length-j)+1<=f'/\f'<=fu/\eV false [v6] left/\ad.box r=some (rd X j)/\Out X r ad R (lK X.L X.E f' lev left j),
    ⟨_,ns,j,fu,rfl,rfl,rfl,hj,gq,by omega,bX _,hk,A.box,O⟩,?_⟩
   clear hk A O gq hj e g1 g2;rintro mm v0 v1 v6 bf ⟨left,j,f',rfl,rfl,rfl,hj,gq,Zx,Ks,hk,uk,O⟩;cases f' with
   | zero=>omega
   | succ f' =>
     rw[lK,OK]at O;simp only[bW,aJ,bh,db,tH uk,rd,List.drop,jE,XT lev (by omega)];refine OX uk hj λ bR e3=>?_;simp only[bE];refine⟨?_,?_,?_⟩
     . intro b hb;simp only[eE,Bq,eH,gx,kn,cK,List.not_mem_nil,or_false]at hb;subst hb;cases e:bf.live b with
       | none=>exact absurd e (ct uk)
       | some x=>exact e3 b x e
     . intro b hb;simp[eE,opM]at hb
     simp only[XU,aJ,bp,List.drop,jE,eT,al];have A3:iD r (rd X j) bf bR:=.nS uk e3;cases hop:(yk lev).find? λ p=>p.1=tM X.L[j]? with
     | none =>
       rw[hop]at O;simp only[Option.isSome_none,fx,bH];exact aq.mk (O.ok _ _ rfl hj _ bR hk A3)
     | some p =>
       rw[hop]at O
       replace O:=O.jR A3
       simp only[Option.isSome_some,dm,bq];have aN:j<X.L.length:=OL (lev:=lev) (k:=p.2) (by rw[OK,hop]; rfl);refine iu A3.box hj λ k cP S=>?_;simp only[bW,al,bh,db];refine Wd S aN λ du S=>?_;simp only[bA,al,cq];simp only[Option.map_some]at O;refine⟨λ e8=>?_,λ n8=>?_⟩
       . have e8:lev=8:=by omega
         rw[if_pos e8]at O;refine qj S O λ x mh S O=>BK S λ jk S=>?_;have mC:=S.hi;refine Mb S hk λ a' ad x9 A'=>?_;exact⟨_,by omega,_,j+1+1,f',rfl,rfl,rfl,S.hi,by omega,by omega,by omega,x9,A'.box,O.jR A'⟩
       . have n8:¬ lev=8:=by omega
         rw[if_neg n8]at O;simp only[dO];refine⟨bI (by omega) (by omega),?_⟩;obtain⟨g1,g2⟩:=hS f' (by omega) (j+1) (lev+1) aN (by omega) (by omega) (by omega);rw[show ((lev:Nat):Int)+1=((lev+1:Nat):Int) by omega];refine g1 r du _ S.A.box ⟨λ ns j2 e pN b mh hkb A=>?_,λ j e ad A=>O.bad j (by rw[e]; rfl) ad (S.A.trans A)⟩;rw[e]at g2 O;have yY:j+1<j2:=g2.1;refine YH (S.jR A pN (by omega)) hk hkb λ a' ad x9 A'=>?_
         replace O:Out X r bR R (if lev=5 then .ok (node p.2 [] 0 0 (dv X.L X.E j) (left++ns)) j2 else lK X.L X.E f' lev (node p.2 [] 0 0 (dv X.L X.E j) (left++ns)) j2):=O
         refine⟨λ e5=>?_,λ n5=>?_⟩
         . rw[if_pos (by omega)]at O;exact aq.mk (O.ok _ _ rfl pN a' ad x9 A')
         . rw[if_neg (by omega)]at O;exact⟨_,by omega,_,j2,f',rfl,rfl,rfl,pN,by omega,by omega,by omega,x9,A'.box,O.jR A'⟩
end
end Go.Rip
namespace Go.Rip
open Go.Proofs Go.RowKit
theorem eV.size {a:AV} {l:List Nd} (h:eV false [a] l):∃ x r,l=x::r/\x.size=(l.length:Int):=by
 generalize hb:false=b at h;generalize hl:[a]=la at h;cases h with
 | mk _ _=>exact⟨_,_,rfl,by simp[node]⟩
 | nil=>cases hl
 | cons _ _=>cases hb
theorem eV.count:∀ {ks ks':List AV} {l:List Nd},eV true ks l->eV true ks' l->ks.length=ks'.length
 | [],ks',l,h,h'=>by
   have:l=[]:=by
    generalize hb:true=b at h;generalize hl:([]:List AV)=la at h;cases h with
    | mk _ _=>cases hb
    | nil=>rfl
    | cons _ _=>cases hl
   rw[h'.ne_nil rfl this]
 | a::ks,ks',l,h,h'=>by
   generalize hb:true=b at h;generalize hl:a::ks=la at h;cases h with
   | mk _ _=>cases hb
   | nil=>cases hl
   | @cons a1 ks1 l1 l2 h1 h2 =>
     cases hl;obtain⟨x,r,e1,e2⟩:=h1.size;generalize ED:l1++l2=ll at h';generalize eY:true=b' at h';cases h' with
     | mk _ _=>cases eY
     | nil=>rw[e1]at ED; cases ED
     | @cons a3 ks3 l3 l4 h3 h4 =>
       obtain⟨y,r',e3,e4⟩:=h3.size;have C1:x=y:=by rw[e1,e3]at ED; simpa using congrArg List.head? ED
       have hlen:l1.length=l3.length:=by rw[C1]at e2; omega
       obtain⟨_,h24⟩:=List.append_inj ED hlen;subst h24;simp[eV.count h2 h4]
section
variable {X:Rx} {ar U:St} {r k i:Nat} {kind:Int} {text:aG} {n m at_:Int} {l:List Nd} {R:cV->St->Prop} {K':AV->St->Prop} {Kp:AV->St->Prop} {w:aG}
theorem YI {q:Unit->Nat->PR (List Nd)} (hr:U.box r=some (rd X i)) (hi:i<=X.L.length) (O:Out X r U R ((bM X.L w i).bind q)) (h:∀ ad,i+1<=X.L.length->iD r (rd X (i+1)) U ad->Out X r ad R (q () (i+1))->K' (.aK []) ad):ae K 102 [.box r 0,.str w] U (ah K' (aa R)) :=
 Gv hr hi w (λ e hl ad A=>h ad hl A (by rw[e]at O; exact Out.jR O A)) λ e ad A=>O.bad _ (by rw[e]; rfl) _ A
theorem GN (S:Sk X ar r k i kind text n m at_ l U) (hb:bm X.L i w=true) (h:∀ ad,Sk X ar r k (i+1) kind text n m at_ l ad->K' (.aK []) ad):ae K 102 [.box r 0,.str w] U (ah K' Kp) :=
 Gv S.A.box S.hi w (λ e hl ad A=>h ad (S.jR A hl (by omega))) λ e ad A=>by simp[bM,hb]at e
structure Below (X:Rx) (fu:Nat):Prop where
 term:∀ f',f'<=fu->∀ j,j<=X.L.length->40*(X.L.length-j)+11<=f'->Ct X 109 j (ig X.L X.E f' j)
 first:∀ f',f'<=fu->∀ j,j<=X.L.length->40*(X.L.length-j)+10<=f'->Ct X 169 j (bF X.L X.E f' j)
 oper:∀ f',f'<=fu->∀ j lev,j<=X.L.length->2<=lev->lev<=9->40*(X.L.length-j)+(11-lev)<=f'->Co X j lev (eC X.L X.E f' lev j)
 atom:∀ f',f'<=fu->∀ j,j<=X.L.length->40*(X.L.length-j)+1<=f'->Ct X 252 j (gI X.L X.E f' j)
 arg:∀ f',f'<=fu->∀ j,j<=X.L.length->40*(X.L.length-j)+12<=f'->Ct X 269 j (js X.L X.E f' j)
theorem Below.R9 {fu i:Nat} (B:Below X fu) (hf:40*(X.L.length-i)+10<=fu+40):jQ X fu i:=λ j hj gq =>
 ⟨B.first fu (bX _) j hj (by omega),(AN fu).2.2.1 j hj (by omega)⟩
theorem Below.ops {fu:Nat} (B:Below X fu):JA X fu:=λ f' hf j lev hj h2 h9 he=>⟨B.oper f' hf j lev hj h2 h9 he,(AN f').2.2.2.1 j lev hj h9 he⟩
theorem aa0 {fu:Nat} (B:Below X fu) (he:40*(X.L.length-i)+12<=fu) {q:List Nd->Nat->PR (List Nd)} (S:Sk X ar r k i kind text n m at_ l U) (O:Out X r ar R ((js X.L X.E fu i).bind λ a j=>(kO X.L X.E fu a j).bind q))
 (h:∀ ns j ad,j<=X.L.length->i<j->Sk X ar r k j kind text n m at_ (l++ns) ad->Out X r ar R (q ns j)->K' (.aK []) ad):ae K 106 [.box r 0,.box k 0,.func (.func 269) [.box r 0] []] U (ah K' (aa R)):=by
 refine Is ?_;unfold LP;have mB:fC K.P 269=true:=by kernel_rfl
 rw[Jx mB (c:=[])];simp only[Fh];have C:∀ f',f'<=fu->∀ j,j<=X.L.length->40*(X.L.length-j)+12<=f'->Ct X 269 j (js X.L X.E f' j)/\Gd X.L.length (j+1) j (js X.L X.E f' j):=λ f' h1 j h2 h3=>⟨B.arg f' h1 j h2 h3,(AN f').2.2.2.2.2.2.2 j h2 h3⟩;obtain⟨c1,c2⟩:=C fu (bX _) i S.hi he;refine jq S c1 c2 O λ ns j aS hj gq S1 O1=>?_;refine⟨λ mm v0 v1 v2 ad=>∃ acc j f',mm=X.L.length-j/\v0=.box r 0/\v1=.box k 0/\v2=.func (.func 269) [.box r 0] []/\j<=X.L.length/\i<j/\40*(X.L.length-j)+1<=f'/\f'<=fu/\Sk X ar r k j kind text n m at_ (l++acc) ad/\Out X r ar R ((kO X.L X.E f' acc j).bind q),
  ⟨_,ns,j,fu,rfl,rfl,rfl,rfl,hj,gq,by omega,bX _,S1,O1⟩,?_⟩
 rintro mm v0 v1 v2 bf ⟨acc,j2,f',rfl,rfl,rfl,rfl,pN,yY,Ks,hf3,S2,O2⟩;cases f' with
 | zero=>omega
 | succ f' =>
   rw[kO]at O2;refine sR S2 (λ hw bR S3=>?_) (λ hw bR S3=>?_)
   . simp only[bH];rw[if_pos hw]at O2;have aN:=dI hw;rw[Jx mB (c:=[])];have e2:((js X.L X.E f' (j2+1)).bind λ b j=>kO X.L X.E f' (acc++b) j).bind q=(js X.L X.E f' (j2+1)).bind λ b j=>(kO X.L X.E f' (acc++b) j).bind q:=by
      cases js X.L X.E f' (j2+1)<;>rfl
     rw[e2]at O2;obtain⟨c1,c2⟩:=C f' (by omega) _ aN (by omega);refine jq S3 c1 c2 O2 λ ns3 j3 cP hj3 aiH S4 O4=>?_;exact⟨_,by omega,acc++ns3,j3,f',rfl,rfl,rfl,rfl,hj3,by omega,by omega,by omega,by rw[<- dc]; exact S4,O4⟩
   . simp only[bq];rw[if_neg (by rw[hw]; simp)]at O2;exact aq.mk (h acc j2 bR pN yY S3 O2)
theorem adV {fu:Nat} (B:Below X fu) (hi:i<=X.L.length) (he:40*(X.L.length-i)+12<=fu+1):Ct X 269 i (js X.L X.E (fu+1) i):=by
 intro r U R hr O;refine V4 ?_;unfold VZ;rw[js]at O;have hs:=X.small;have hF:=B.R9 (i:=i) (by omega);refine Ma hr hi λ b aS hb A1=>?_
 replace O:=O.jR A1
 cases b with
 | true =>
   simp only[bH];rw[if_pos hb]at O;refine iu A1.box hi λ k bf S=>?_;refine GN S hb λ bR S=>dM S O λ bR S O=>?_;refine Gt (by kernel_rfl) (λ i hi=>NA hi) (λ i hi=>yN hi) (by omega) (by omega) S O λ ns j cP hj gq S O=>?_;refine dM S O λ du S O=>?_;exact nO hF (by omega) S O λ ns j du hj gq S O=>fi S O
 | false =>
   simp only[bq];rw[if_neg (by rw[hb]; simp)]at O;refine Ma A1.box hi λ b2 bf gz A2=>?_
   replace O:=O.jR A2
   cases b2 with
   | true =>
     simp only[bH];rw[if_pos gz]at O;refine iu A2.box hi λ k bf S=>?_;refine GN S gz λ bR S=>dM S O λ bR S O=>?_;refine nO hF (by omega) S O λ ns j du hj gq S O=>dM S O λ _ S O=>dM S O λ _ S O=>?_;refine jq S (NA S.hi) (yN S.hi) O λ ns j du hj gq S O=>dM S O λ _ S O=>?_;exact nO hF (by omega) S O λ ns j du hj gq S O=>dM S O λ _ S O=>fi S O
   | false =>
     simp only[bq];rw[if_neg (by rw[gz]; simp)]at O;exact Cx (B.term fu (bX _) i hi (by omega)) A2.box O
end
end Go.Rip
namespace Go.Rip
open Go.Proofs Go.RowKit
theorem iy {U:St} {b:Nat} {ks vs:List AV}:(U.set b (.mp ks vs)).mp b=some (ks,vs):=by simp[St.mp,dW]
theorem wO {U:St} {b:Nat} {ks vs:List AV}:(U.new b (.mp ks vs)).mp b=some (ks,vs):=by simp[St.mp,nJ]
theorem Qv {U ad:St} {b:Nat} (h:ad.live b=U.live b):ad.mp b=U.mp b:=by simp[St.mp,h]
theorem cX.mp {U ad:St} {b:Nat} {x:List AV×List AV} (h:cX U ad) (k:U.mp b=some x):ad.mp b=some x:=by
 cases e:U.live b with
 | none=>simp[St.mp,e]at k
 | some y=>rw[Qv ((h b y e).trans e.symm)]; exact k
theorem yF {C:de} {U:St} {K':AV->St->Prop} {Kp:AV->St->Prop} {m:Nat} {ks vs ks' vs':List AV} {s:aG} {v:AV} {t:TypeId} (h:U.mp m=some (ks,vs)) (hf:ng .s (.str s) ks 0=some none) (hi:iH (.str s) v ks vs=(ks',vs')) :
 (eB (some (.s,t)) (.mp m) (.str s) v U).wp C U K' Kp=K' (.aK []) (U.set m (.mp ks' vs')):=by
 simp only[eB,h,hf,rn,hi]; rfl
def ug:List (aG×Int):=[(mT,32),(dR,28),(ik,30),(kz,31),(fU,29),(dN,27)]
theorem aa2 (s:aG) {U:St} {m:Nat} (h:U.mp m=some (ug.map λ p=>.str p.1,ug.map λ p=>.int .u8 p.2)):eQ (some (.s,5)) (some (AV.int .u8 0)) (.mp m) (.str s) true U=.val (.aK [.int .u8 (match ug.find? (λ p=>p.1=s) with|some p=>p.2|none=>0),.bool (ug.find? (λ p=>p.1=s)).isSome]):=by
 have:=wL s (.int .u8 0) (ug.map λ p=>(p.1,AV.int .u8 p.2));rw[List.map_map,List.map_map,List.find?_map]at this;simp only[eQ,lH,rn,h];rw[show (ug.map λ p=>AV.str p.1)=List.map ((λ p:aG×AV=>AV.str p.1) ∘ λ p=>(p.1,AV.int .u8 p.2)) ug from rfl,show (ug.map λ p=>AV.int .u8 p.2)=List.map ((λ p:aG×AV=>p.2) ∘ λ p=>(p.1,AV.int .u8 p.2)) ug from rfl,this];have e:((λ p:aG×AV=>decide (p.1=s)) ∘ λ p:aG×Int=>(p.1,AV.int .u8 p.2))=λ p=>decide (p.1=s):=rfl;rw[e];cases ug.find? λ p=>decide (p.1=s)<;>rfl
section
variable {X:Rx} {ar U:St} {r k i:Nat} {kind:Int} {text:aG} {n m at_:Int} {l:List Nd} {R:cV->St->Prop} {K':AV->St->Prop} {Kp:AV->St->Prop} {w:aG}
theorem aa3 {fu:Nat} (B:Below X fu) (hi:i<=X.L.length) (he:40*(X.L.length-i)+1<=fu+1):Ct X 252 i (gI X.L X.E (fu+1) i):=by
 intro r U R hr O;refine VW ?_;unfold VV;have hs:=X.small;rw[lR];intro mm ui;have e1:cX U (U.new mm (.mp [] [])):=(cX.refl U).new ui;have hn:=ui.1;rw[show NV.at mm .mp=AV.mp mm from rfl];generalize Xv:U.new mm (.mp [] [])=aS at e1 ⊢;have m1:aS.mp mm=some ([],[]):=by rw[<- Xv]; exact wO
 rw[yF (ks':=[.str dN]) (vs':=[.int .u8 27]) m1 rfl rfl];rw[yF (ks':=[.str dR,.str dN]) (vs':=[.int .u8 28,.int .u8 27]) iy rfl rfl];rw[yF (ks':=[.str dR,.str fU,.str dN]) (vs':=[.int .u8 28,.int .u8 29,.int .u8 27]) iy rfl rfl];rw[yF (ks':=[.str dR,.str ik,.str fU,.str dN]) (vs':=[.int .u8 28,.int .u8 30,.int .u8 29,.int .u8 27]) iy rfl rfl];rw[yF (ks':=[.str dR,.str ik,.str kz,.str fU,.str dN]) (vs':=[.int .u8 28,.int .u8 30,.int .u8 31,.int .u8 29,.int .u8 27]) iy rfl rfl];rw[yF (ks':=[.str mT,.str dR,.str ik,.str kz,.str fU,.str dN]) (vs':=[.int .u8 32,.int .u8 28,.int .u8 30,.int .u8 31,.int .u8 29,.int .u8 27]) iy rfl rfl];have e2:=(((((e1.set (x:=.mp [.str dN] [.int .u8 27]) hn).set (x:=.mp [.str dR,.str dN] [.int .u8 28,.int .u8 27]) hn).set (x:=.mp [.str dR,.str fU,.str dN] [.int .u8 28,.int .u8 29,.int .u8 27]) hn).set (x:=.mp [.str dR,.str ik,.str fU,.str dN] [.int .u8 28,.int .u8 30,.int .u8 29,.int .u8 27]) hn).set (x:=.mp [.str dR,.str ik,.str kz,.str fU,.str dN] [.int .u8 28,.int .u8 30,.int .u8 31,.int .u8 29,.int .u8 27]) hn).set (x:=.mp [.str mT,.str dR,.str ik,.str kz,.str fU,.str dN] [.int .u8 32,.int .u8 28,.int .u8 30,.int .u8 31,.int .u8 29,.int .u8 27]) hn;generalize Xw:((((((aS.set mm (.mp [.str dN] [.int .u8 27])).set mm _).set mm _).set mm _).set mm _).set mm _)=bf at e2 ⊢;have m2:bf.mp mm=some (ug.map λ p=>.str p.1,ug.map λ p=>.int .u8 p.2):=by rw[<- Xw]; exact iy
 have uk:=e2.aY hr;refine OX uk hi λ bR e3=>?_;simp only[bE,aa2 _ (e3.mp m2),al,bp,List.drop,bC];have A3:iD r (rd X i) U bR:=.nS hr (e2.trans e3)
 replace O:=O.jR A3
 have hw:∀ w:aG,w≠[]->bm X.L i w=decide (w=tM X.L[i]?):=λ w h=>by rw[HH h]; simp[eq_comm]
 rw[gI,hw dN (by decide),hw dR (by decide),hw fU (by decide),hw ik (by decide),hw kz (by decide),hw mT (by decide)]at O;simp only[eg]at O;cases NU:ug.find? λ p=>p.1=tM X.L[i]? with
 | some p =>
   simp only[Option.isSome_some,bH];have hp:p∈ug:=List.mem_of_find?_eq_some NU;have uP:p.1=tM X.L[i]?:=by simpa using List.find?_some NU
   have ca:p.1≠[]:=by
    have:∀ p∈ug,p.1≠[]:=by decide
    exact this p hp
   have aN:i<X.L.length:=dI (w:=p.1) (by rw[hw _ ca,uP]; simp);refine iu A3.box hi λ k cP S=>?_;simp only[bW,al,bh,db];refine Wd S aN λ du S=>?_;intro j hj;simp only[bA,al,bo,aP,sM,cB];rw[<- uP]at O;simp only[ug,cK,List.not_mem_nil,or_false]at hp;have t1:(mT=dN)=False:=by simp; decide
   rcases hp with rfl|rfl|rfl|rfl|rfl|rfl
   . simp (decide:=true) only[if_false,if_true]at O;simp (decide:=true) [bH];exact oF S O λ x _ S O=>oG S λ _ S=>hj _ _ (fi S O)
   . simp (decide:=true) only[if_false,if_true]at O;simp (decide:=true) [bq];exact hj _ _ (fi S O)
   . simp (decide:=true) only[if_false,if_true]at O;simp (decide:=true) [bq];exact hj _ _ (fi S O)
   . simp (decide:=true) only[if_false,if_true]at O;simp (decide:=true) [bH];exact oF S O λ x _ S O=>oG S λ _ S=>hj _ _ (fi S O)
   . simp (decide:=true) only[if_false,if_true]at O;simp (decide:=true) [bq];exact hj _ _ (fi S O)
   . simp (decide:=true) only[if_false,if_true]at O;simp (decide:=true) [bq];exact hj _ _ (fi S O)
 | none =>
   simp only[Option.isSome_none,bq];have kf:∀ w∈ug.map (·.1),¬ w=tM X.L[i]?:=λ w hw e=>by
    rw[List.find?_eq_none]at NU;obtain⟨p,hp,rfl⟩:=List.mem_map.1 hw;simpa [e] using NU p hp
   rw[if_neg (kf _ (by decide)),if_neg (kf _ (by decide)),if_neg (kf _ (by decide)),if_neg (kf _ (by decide)),if_neg (kf _ (by decide)),if_neg (kf _ (by decide))]at O;refine Lg A3.box hi bK (λ hb cP A4=>?_) (λ hb cP e4=>?_)
   . simp only[bE,bH];rw[if_pos hb]at O;have aN:=dI hb
     replace O:=O.jR A4
     have g2:=(AN (L:=X.L) (E:=X.E) fu).1 (i+1) aN (by omega);refine B.term fu (bX _) (i+1) aN (by omega) r cP _ A4.box ⟨λ ns j e hj a ad hk A=>?_,λ j e ad A=>O.bad j (by rw[e]; rfl) ad A⟩;rw[e]at O;refine YI A.box hj (Out.jR O A) λ du hj5 A5 O=>?_;exact aq.mk (O.ok _ _ rfl hj5 a du hk ⟨A5.box,l8.refl _ _⟩)
   . simp only[bE,bq];rw[if_neg (by rw[hb]; simp)]at O;have A4:iD r (rd X i) bR cP:=.nS A3.box e4
     replace O:=O.jR A4
     refine rN A4.box hi 0 (by omega) λ du e5=>?_;rw[Nat.add_zero];have A5:iD r (rd X i) cP du:=.nS A4.box e5
     replace O:=O.jR A5
     obtain⟨kd,s,a,e,hm⟩:=wX X.L[i]?;rw[e];simp only[bE,PF,List.drop,bC,bA,al,cq];have gD:rF X.L i 2=true↔kd=2:=by
      refine Iff.trans ?_ (hm 2 (by omega)).symm;unfold rF;cases ht:X.L[i]? with
      | none=>simp
      | some t =>
        rw[ht]at e; simp only[tc,jM,List.cons.injEq,AV.str.injEq,true_and]at e;simp[e.2.1]
     refine⟨λ h2=>?_,λ h2=>?_⟩
     . rw[if_pos (gD.2 h2)]at O;refine iu A5.box hi λ k mh S=>?_;simp only[bW,al,bh,db];exact qj S O λ x _ S O=>BK S λ _ S=>fi S O
     . rw[if_neg (λ h=>h2 (gD.1 h))]at O;refine iu A5.box hi λ k mh S=>?_;simp only[bW,al,bh,db];refine oF S O λ x _ S O=>oG S λ _ S=>?_;intro j hj;refine sR S (λ hw jk S=>?_) λ hw jk S=>?_
       . simp only[bH];rw[if_pos hw]at O;have hh:=S.hi;refine Cw S λ _ S=>aa0 B (by omega) S O λ ns j2 tf pN yY S O=>?_;exact dM S O λ _ S O=>hj _ _ (fi S O)
       . simp only[bq];rw[if_neg (by rw[hw]; simp)]at O;exact hj _ _ (fi S O)
end
end Go.Rip
namespace Go.Rip
open Go.Proofs Go.RowKit
section
variable {X:Rx} {ar U:St} {r k i:Nat} {kind:Int} {text:aG} {n m at_:Int} {l:List Nd} {R:cV->St->Prop} {K':AV->St->Prop} {Kp:AV->St->Prop} {w:aG}
theorem acj {a:AV} {ns:List Nd} (S:Sk X ar r k i kind text n m at_ [] U) (hi:1<=i) (hk:eV false [a] ns) (h:∀ ad,Sk X ar r k i kind text n m at_ ns ad->K' (.box k 0) ad) :
 (au (some (87,1)) (some [AV.a8]) 1 false [(0,a)]).wp K U (λ v U=>ae K 103 [.box k 0,v] U (ah K' (aa R))) (aa R) :=
 L9 S (λ ks h1 h2 h3=>⟨ks,h1,h2,by rw[h2.ne_nil rfl rfl]; simpa using hi⟩) hk λ ad S=>h ad (by simpa using S)
theorem Xd {U:St} {v:AV} {e sz n:Nat} {l:List AV} (h:Grow U v e sz n l):cr (some false) v=.val (.int .i64 n):=by
 rcases h with ⟨rfl,rfl,rfl⟩|⟨τ,rfl,_⟩<;>rfl
theorem acn {fu:Nat} (B:Below X fu) (hi:i<=X.L.length) (he:40*(X.L.length-i)+11<=fu+1):Ct X 109 i (ig X.L X.E (fu+1) i):=by
 intro r U R hr O;refine Ui ?_;unfold Uh;have hs:=X.small;rw[ig]at O;have g:=(AN (L:=X.L) (E:=X.E) fu).2.2.1 i hi (by omega);refine B.first fu (bX _) i hi (by omega) r U _ hr ⟨λ ns j e hj a aS hk A1=>?_,λ j e ad A=>O.bad j (by rw[e]; rfl) ad A⟩
 rw[e]at O g;have gq:i<j:=g.1;have O1:Out X r aS R (nN X.L X.E fu (dv X.L X.E j) ns 1 j):=Out.jR O A1;clear O e g;refine iu A1.box hj λ k bf S=>?_;refine acj S (by omega) hk λ bR S=>?_;intro jj CS;have fin:∀ (acc:List Nd) (many q:Nat) (ad:St),Sk X aS r k q 9 [] 0 0 (dv X.L X.E j) acc ad->(∃ ks,eV true ks acc/\ks.length=many)->(many=1->acc=ns)->Out X r aS R (.ok (if many=1 then acc else node 9 [] 0 0 (dv X.L X.E j) acc) q)->jj a (.box k 0) ad:=by
  intro acc many q ad S ⟨ks0,N1,rY⟩ h1 O;refine CS _ _ _ ?_;have SI:=S.hi;have hA':=S.A;obtain⟨ks,M,N4,hle⟩:=S.M;have hl:ks.length=many:=(N4.count N1).trans rY;obtain⟨kv,b1,b2,b3,b4⟩:=M.box;simp only[bW,al,bh,db,il b1,nr,List.drop,bC,Xd b2,bA,cq,hl];refine⟨λ h=>?_,λ h=>?_⟩
  . have h:many=1:=by omega
    rw[if_pos h]at O;have:=h1 h;subst this;exact aq.mk (O.ok _ _ rfl SI a ad hk hA')
  . rw[if_neg (by omega)]at O;exact fi S O
 refine⟨λ mm v0 v3 v4 ad=>∃ acc many q f',mm=X.L.length-q/\v0=.box r 0/\v3=a/\v4=.box k 0/\i<q/\40*(X.L.length-q)+1<=f'/\f'<=fu/\Sk X aS r k q 9 [] 0 0 (dv X.L X.E j) acc ad/\(∃ ks,eV true ks acc/\ks.length=many)/\(many=1->acc=ns)/\1<=many/\Out X r aS R (nN X.L X.E f' (dv X.L X.E j) acc many q),
  ⟨_,ns,1,j,fu,rfl,rfl,rfl,rfl,gq,by omega,bX _,S,⟨[a],hk.one,rfl⟩,λ _=>rfl,bX _,O1⟩,?_⟩
 clear O1 S gq;rintro mm v0 v3 v4 cP ⟨acc,many,q,f',rfl,rfl,rfl,rfl,hiq,Zx,Ks,S,iW,N6,ZE,O⟩;cases f' with
 | zero=>omega
 | succ f' =>
   rw[nN]at O;have hq:=S.hi;refine We S λ b du hb S=>?_;cases b with
   | false =>
     simp only[bq];rw[if_neg (by rw[hb]; simp)]at O;exact fin acc many q du S iW N6 O
   | true =>
     simp only[bH];have aN:=dI hb;refine rN S.A.box hq 1 (by omega) λ mh e6=>?_;obtain⟨kd,s,at',e,hm⟩:=wX X.L[q+1]?;have Gi:kd=0↔X.L.length<=q+1:=by
      cases ht:X.L[q+1]? with
      | none =>
        rw[ht]at e; simp only[tc,List.cons.injEq,AV.int.injEq,true_and]at e;rw[List.getElem?_eq_none_iff]at ht;exact⟨λ _=>ht,λ _=>e.1.symm⟩
      | some t =>
        rw[ht]at e; simp only[tc,jM,List.cons.injEq,AV.int.injEq,true_and]at e;have:=(dp.1 ht).1;have hk:=(X.ok t (gw ht)).cases;constructor
        . intro h; omega
        . intro h; omega
     have hbg:=MD X.L[q+1]?;rw[abO]at hbg;rw[e]at hbg ⊢;simp only[bE,lR];intro b2 gz;have e7:=e6.new (x:=.box [AV.int .u8 0,AV.str [],AV.int .i64 0]) gz;rw[show NV.at b2 .box=AV.box b2 0 from rfl,cI aD];refine⟨⟨rfl,rfl,by simp⟩,?_⟩;have e8:=e7.set (x:=.box (ay [AV.int .u8 0,AV.str [],AV.int .i64 0] 0 (av (.agg [.int .u8 kd,.str s,.int .i64 at'])))) (e6.fresh gz.1);generalize qY:(mh.new b2 (.box [AV.int .u8 0,AV.str [],AV.int .i64 0])).set b2 (.box (ay [AV.int .u8 0,AV.str [],AV.int .i64 0] 0 (av (.agg [.int .u8 kd,.str s,.int .i64 at']))))=tf at e8 ⊢;have sy:tf.box b2=some [.int .u8 kd,.str s,.int .i64 at']:=by rw[<- qY,aT]; rfl
     replace S:=S.jR (.nS S.A.box e8) hq (bX _)
     simp only[bh,al,il sy,List.drop,bC,db,bA,bo,aP];have stop:¬ (q+1<X.L.length/\uF X.L (q+1)=false)->jj v3 (.box k 0) tf:=λ hn=>by
      rw[if_neg (λ h=>hn h.2)]at O;exact fin acc many q tf S iW N6 O
     by_cases h0:kd=0
     . simp only[h0,dG,show (true==false)=false from rfl,cN,aQ,if_true,al,bH];exact stop (λ h=>by have:=Gi.1 h0; omega)
     . simp only[h0,eS,iY,cB,zA sy,BA,nw,aQ,bZ,if_false,al];refine⟨by simp,_,hbg,?_⟩;cases hit:uF X.L (q+1) with
       | true=>simp only[bH]; exact stop (λ h=>by rw[hit]at h; cases h.2)
       | false =>
         simp only[bq];have KA:q+1<X.L.length:=by
          rcases kI (q+1) X.L.length with h|h
          . exact h
          . exact absurd (Gi.2 h) h0
         rw[if_pos ⟨hb,KA,hit⟩]at O;refine GN S hb λ tg S=>?_;have hF:jQ X f' q:=λ j hj hqj=>⟨B.first f' (by omega) j hj (by omega),(AN f').2.2.1 j hj (by omega)⟩
         have aew:∀ E9 a2,eV false [a2] E9->∃ ks,eV true ks (acc++E9)/\ks.length=many+1:=λ E9 a2 h=>by
          obtain⟨ks,h1,h2⟩:=iW;exact⟨ks++[a2],h1.snoc h,by simp[h2]⟩
         obtain⟨g1,g2⟩:=hF (q+1) aN (by omega);refine g1 r tg _ S.A.box ⟨λ E9 j2 e pN a2 zS gD A2=>?_,λ j e ad A=>O.bad j (by rw[e]; rfl) ad (S.A.trans A)⟩;rw[e]at g2 O;have hqj:q+1<j2:=g2.1;obtain⟨ks,M1,M2,M3⟩:=S.M;have S2:=S.jR A2 pN (by omega);refine L9 S2 (λ _ _ _ _=>⟨ks,M1.jR A2 S.A.box,M2,by omega⟩) gD λ akb S3=>?_;refine⟨_,?_,acc++E9,many+1,j2,f',rfl,rfl,rfl,rfl,by omega,by omega,by omega,S3,aew E9 a2 gD,λ h=>by omega,by omega,O⟩;omega
end
theorem below:∀ (X:Rx) (fu:Nat),Below X fu:=λ X fu=>by
 induction fu with
 | zero=>constructor<;>intros<;>omega
 | succ fu B =>
   have st:∀ {f':Nat},f'<=fu+1->f'<=fu\/f'=fu+1:=λ h=>by omega
   refine⟨λ f' hf j hj he=>?_,λ f' hf j hj he=>?_,λ f' hf j lev hj h2 h9 he=>?_,λ f' hf j hj he=>?_,λ f' hf j hj he=>?_⟩
   . rcases st hf with h|rfl
     . exact B.term f' h j hj he
     . exact acn B hj he
   . rcases st hf with h|rfl
     . exact B.first f' h j hj he
     . exact W4 hj (B.R9 (by omega)) (B.oper fu (bX _) j 2 hj (by omega) (by omega) (by omega))
   . rcases st hf with h|rfl
     . exact B.oper f' h j lev hj h2 h9 he
     . exact ab0 hj h2 h9 he (λ h=>B.atom fu (bX _) j hj (by omega)) B.ops
   . rcases st hf with h|rfl
     . exact B.atom f' h j hj he
     . exact aa3 B hj he
   . rcases st hf with h|rfl
     . exact B.arg f' h j hj he
     . exact adV B hj he
theorem XC (X:Rx) {i:Nat} (hi:i<=X.L.length):Ct X 55 i (mN X.L X.E (fuel X.L) i):=by
 have hf:40*(X.L.length+2)=fuel X.L:=rfl;exact abw hi (by omega) λ j hj gq=>⟨(below X _).term _ (bX _) j hj (by omega),(AN _).1 j hj (by omega)⟩
end Go.Rip
