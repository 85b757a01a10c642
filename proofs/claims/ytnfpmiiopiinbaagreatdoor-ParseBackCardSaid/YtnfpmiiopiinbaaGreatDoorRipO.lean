/- Lemmas for the proof: no conditions. -/
import Derived.Test.YtnfpmiiopiinbaaGreatDoorRipZz
import Derived.Test.YtnfpmiiopiinbaaGreatDoorRipN
set_option linter.unusedVariables false
set_option linter.unusedSimpArgs false
set_option linter.loopingSimpArgs false
namespace Go.Rip
open Go.Proofs Go.RowKit
section
variable {X:Rx} {i:Nat}
theorem Jk {U:St} {r:Nat} {w:aK} {K':AV->St->Prop} {Kp:AV->St->Prop} (hr:U.box r=some (rd X i)) (hi:i <= X.L.length) (h:∀ b ad,bj X.L i w=b->gr r (rd X i) U ad->K' (.bool b) ad) :
 (ar (some (9,1)) (some [AV.str []]) 1 false [(0,.str w)]).wp K U (fun v U=>ae K 105 [.box r 0,v] U (ag K' Kp)) Kp:=by
 rw [gp]
 refine ⟨by omega,?_⟩
 rw [eG (o:=0) (s:=1) rfl]
 refine ⟨⟨rfl,rfl,by simp [bN]⟩,?_⟩
 rw [ig]
 refine ⟨rfl,?_⟩
 refine MO (l:=[w]) hr hi (by simp) fun aR e1=>?_
 exact h _ _ (by rw [AH]) (.mg hr e1)
theorem AN {U:St} {r:Nat} {R:cR->St->Prop} {f:FuncId} {p:PR (List Nd)} (C:Ct X f i p) (hr:U.box r=some (rd X i)) (O:Out X r U R p):ae K f [.box r 0] U (ag (fun v U=>ak R v U) (aa R)) :=
 C r U _ hr ⟨fun ns j e hj a ad hk A=>ak.mk (O.ok ns j e hj a ad hk A),O.bad⟩
theorem Ap (hi:i <= X.L.length):Ct X 108 i (fX X.L X.E i):=by
 intro r U R hr O
 refine QA ?_
 unfold Qz
 refine gG hr hi fun k aR S=>?_
 simp only [bS,al,aZ,cU]
 intro j hj
 unfold fX at O
 refine rL S (fun h1 a7 S=>?_) fun h1 a7 S=>?_
 . rw [if_pos h1] at O
   simp only [bE]
   exact Ad S fun bO S=>hj _ _ (eI S O)
 rw [if_neg (by rw [h1]; simp)] at O
 simp only [bm]
 refine rL S (fun h2 a7 S=>?_) fun h2 a7 S=>?_
 . rw [if_pos h2] at O
   simp only [bE]
   exact Ad S fun bO S=>hj _ _ (eI S O)
 rw [if_neg (by rw [h2]; simp)] at O
 simp only [bm]
 refine rL S (fun h3 a7 S=>?_) fun h3 a7 S=>?_
 . rw [if_pos h3] at O
   simp only [bE]
   exact pq S O fun x bO S O=>AM S fun cG S=>Ad S fun di S=>hj _ _ (eI S O)
 rw [if_neg (by rw [h3]; simp)] at O
 simp only [bm]
 exact dA S O fun bO S O=>pq S O fun x bO S O=>Ad S fun di S=>hj _ _ (eI S O)
theorem Kx (hi:i <= X.L.length):Ct X 278 i (lX X.L X.E i):=by
 intro r U R hr O
 refine Sz ?_
 unfold Sy
 refine gG hr hi fun k aR S=>?_
 simp only [bS,al,aZ,cU]
 exact nx S O fun x bO S O=>ny S fun di S=>eI S O
theorem Li {f:Nat} (hi:i <= X.L.length) (hf:X.L.length < f):Ct X 104 i (jD X.L X.E f i):=by
 intro r U R hr O
 refine Qu ?_
 unfold Qt
 refine Jk hr hi fun b aR hb A1=>?_
 replace O:=O.jb A1
 simp only [ey,al]
 unfold jD at O
 cases b with
 | false =>
   simp only [eQ,bE]
   rw [if_neg (by rw [hb]; simp)] at O
   exact AN (Ap hi) A1.box O
 | true =>
   simp only [c8,bm]
   rw [if_pos hb] at O
   refine gG A1.box hi fun k a7 S=>?_
   have O':Out X r aR R ((bL X.L cP i).bind fun _ j=>(jT X.L (fX X.L X.E) f j).bind fun a j=>(bL X.L cC j).bind fun _ j=>(bL X.L fO j).bind fun _ j=>(fX X.L X.E j).bind fun b j=>.ok (node 8 [] 0 0 (de X.L X.E i) (a++b)) j):=by
    rw [show bL X.L cP i=.ok () (i+1) by simp [bL,hb]]; exact O
   refine dA S O' fun bO S O=>?_
   refine Ee (by kernel_rfl) (fun i hi=>Ap hi) (fun i hi=>qv hi) (by omega) (by omega) S O fun ns j cG hj fP S O=>?_
   refine dA S O fun di S O=>dA S O fun mK S O=>?_
   exact iB S (Ap S.hi) (qv S.hi) O fun Df j2 jo rV xx S O=>eI S O
theorem UB {f:Nat} (hi:i <= X.L.length) (hf:X.L.length < f):Ct X 107 i (j9 X.L X.E f i):=by
 intro r U R hr O
 refine Qy ?_
 unfold Qw
 refine gG hr hi fun k aR S=>?_
 simp only [bS,al,aZ,cU]
 refine nx S O fun x a7 S O=>ny S fun bO S=>dA S O fun cG S O=>?_
 exact iB S (Li S.hi hf) (xQ S.hi hf) O fun ns j di hj fP S O=>eI S O
theorem X5 {f:Nat} (hi:i <= X.L.length) (hf:X.L.length < f) (hg:∀ j,j <= X.L.length->i < j->Ct X 109 j (ia X.L X.E f j)/\Gd X.L.length (j+1) j (ia X.L X.E f j)):Ct X 55 i (mL X.L X.E f i):=by
 intro r U R hr O
 refine U0 ?_
 unfold W1
 unfold mL at O
 refine gG hr hi fun k aR S=>?_
 simp only [bS,al,aZ,cU]
 refine rL S (fun h1 a7 S=>?_) fun h1 a7 S=>?_
 . rw [if_pos h1] at O
   simp only [bE]
   refine nx S O fun x a7 S O=>ny S fun bO S=>dA S O fun cG S O=>?_
   refine iB S (Li S.hi hf) (xQ S.hi hf) O fun ns j di hj fP S O=>?_
   exact dA S O fun mK S O=>eI S O
 rw [if_neg (by rw [h1]; simp)] at O
 simp only [bm]
 refine AM S fun bO S=>?_
 intro j hj
 have rest:∀ (kk:Int) (p:Nat) (ad:St),i < p->Sk X U r k p kk [] 0 0 (de X.L X.E i) [] ad->Out X r U R ((gK X.L p).bind fun x j=>(bL X.L cP j).bind fun _ j =>
  (if bj X.L j cC=true then .ok [] j else jT X.L (j9 X.L X.E f) f j).bind fun a j =>
  (bL X.L cC j).bind fun _ j=>(bL X.L ez j).bind fun _ j=>(fX X.L X.E j).bind fun b j=>(bL X.L gY j).bind fun _ j=>(ia X.L X.E f j).bind fun c j =>
  (bL X.L cH j).bind fun _ j=>.ok (node kk x 0 0 (de X.L X.E i) (a++b++c)) j)->j (.box r 0) (.box k 0) ad:=by
  intro kk p ad hp S O
  refine hj _ _ _ ?_
  refine nx S O fun x a7 S O=>?_
  simp only [bS,al,aZ,cU]
  refine ny S fun bO S=>dA S O fun cG S O=>?_
  intro j1 zr
  have WM:∀ (ns:List Nd) (q:Nat) (ad:St),i < q->Sk X U r k q kk x 0 0 (de X.L X.E i) ns ad->Out X r U R ((bL X.L cC q).bind fun _ j=>(bL X.L ez j).bind fun _ j=>(fX X.L X.E j).bind fun b j=>(bL X.L gY j).bind fun _ j=>(ia X.L X.E f j).bind fun c j =>
   (bL X.L cH j).bind fun _ j=>.ok (node kk x 0 0 (de X.L X.E i) (ns++b++c)) j)->j1 (.box r 0) (.box k 0) ad:=by
   intro ns q ad hq S O
   refine zr _ _ _ ?_
   refine dA S O fun cG S O=>dA S O fun cG S O=>?_
   refine iB S (Ap S.hi) (qv S.hi) O fun Df j2 jo rV xx S O=>?_
   refine dA S O fun cG S O=>?_
   obtain ⟨g1,g2⟩:=hg _ S.hi (by omega)
   exact iB S g1 g2 O fun Df j2 jo rV xx S O=>dA S O fun cG S O=>eI S O
  refine SG S fun b di hb S=>?_
  simp only [ey,al]
  cases b with
  | false =>
    simp only [eQ,bE]
    rw [if_neg (by rw [hb]; simp)] at O
    have p5:=X.small
    refine Ee (by kernel_rfl) (fun i hi=>UB hi hf) (fun i hi=>FY hi hf) (by omega) (by omega) S O fun ns j cG hj fP S O=>?_
    exact WM _ _ _ (by omega) S O
  | true =>
    simp only [c8,bm]
    rw [if_pos hb] at O
    exact WM _ _ _ (by omega) S O
 refine rL S (fun h2 cG S=>?_) fun h2 cG S=>?_
 . rw [if_pos h2] at O
   simp only [bE]
   exact AM S fun di S=>rest _ _ _ (by omega) S O
 . rw [if_neg (by rw [h2]; simp)] at O
   simp only [bm]
   have e:∀ (p:PR Unit) (q:Int->Nat->PR (List Nd)),(p.bind fun _ j=>PR.ok (4:Int) j).bind q=p.bind fun _ j=>q 4 j:=fun p q=>by cases p <;> rfl
   rw [e] at O
   exact dA S O fun di S O=>rest _ _ _ (by omega) S O
end
end Go.Rip
namespace Go.Rip
open Go.Proofs Go.RowKit
theorem MN {c:lg} (o:Option Tk) (l:List aK) (hn:l.length <= 100000) (hc:closed (.vec l.length c (l.map .str))=true):Pure K 121 [.agg (rX o),.vec l.length c (l.map .str)] (.bool (vN o l)):=by
 refine Pure.of ?_ rfl (fun U=>rfl) fun R hR=>B2 o l hn fun ad _=>hR ad
 have:closed (.agg (rX o))=true:=by cases o <;> rfl
 simp only [cA,this,hc,Bool.and_self]
section
variable {X:Rx} {aq U:St} {r k i:Nat} {kind:Int} {text:aK} {n m at_:Int} {l:List Nd} {R:cR->St->Prop} {K':AV->St->Prop} {Kp:AV->St->Prop} {w:aK} {f:FuncId}
def je (X:Rx) (f i:Nat):Prop:=∀ j,j <= X.L.length->i < j->Ct X 169 j (bD X.L X.E f j)/\Gd X.L.length (j+1) j (bD X.L X.E f j)
def DN (X:Rx) (f:Nat) (fin:List Nd->Nat->PR (List Nd)):List aK->List Nd->Nat->PR (List Nd)
 | [],acc,i=>fin acc i
 | w::ws,acc,i=>(bL X.L w i).bind fun _ j=>(bD X.L X.E f j).bind fun a j=>DN X f fin ws (acc++a) j
theorem Jm {fu i0:Nat} (hF:je X fu i0) {fin:List Nd->Nat->PR (List Nd)} (ws:List aK) (hw:ws.length <= 10) (zq:i0 <= i) (S:Sk X aq r k i kind text n m at_ l U) {ac:List Nd} (hac:ac=l) (O:Out X r aq R (DN X fu fin ws ac i))
 (h:∀ acc j ad,Sk X aq r k j kind text n m at_ acc ad->Out X r aq R (fin acc j)->ak R (.box k 0) ad) :
 eW 5 [.box r 0,.box k 0,.vec ws.length .full (ws.map .str),.int .i64 ws.length,.int .i64 0] U fun lp v0 v3 pw lR v10 U =>
 (ax .lss (BT.mk false false false none false) false v10 lR).wp K U (fun v11 U =>
 aw v11 (
  (aL (some (9,1)) none pw v10).wp K U (fun v12 U =>
  (aj (some (false,1)) v12 U).wp K U (fun ck U =>
  ae K 102 [v0,ck] U (ag (fun cO U =>
  ae K 169 [v0] U (ag (fun da U =>
  (ar (some (87,1)) (some [AV.aY]) 1 false [(0,da)]).wp K U (fun v20 U =>
  ae K 103 [v3,v20] U (ag (fun v21 U =>
  (ax .add (BT.mk false false false none false) true v10 (AV.int .i64 1)).wp K U (fun dL U =>
  lp v0 v3 pw lR dL U) (aa R)) (aa R))) (aa R)) (aa R))) (aa R))) (aa R)) (aa R)) (
  ak R v3 U)) (aa R):=by
 subst hac
 refine ⟨fun mm v0 v3 v8 v9 v10 ad=>∃ t acc j,t <= ws.length/\mm=ws.length - t/\v0=.box r 0/\v3=.box k 0/\v8=.vec ws.length .full (ws.map .str)/\v9=.int .i64 ws.length/\v10=.int .i64 (t:Nat)/\i0 <= j/\Sk X aq r k j kind text n m at_ acc ad/\Out X r aq R (DN X fu fin (ws.drop t) acc j),
  ⟨_,0,_,_,by omega,rfl,rfl,rfl,rfl,rfl,rfl,zq,S,O⟩,?_⟩
 rintro mm v0 v3 v8 v9 v10 aR ⟨t,acc,j,ht,rfl,rfl,rfl,rfl,rfl,rfl,fP,S,O⟩
 simp only [cb,al,bY]
 refine ⟨fun aQ=>?_,fun kn=>?_⟩
 . have aQ:t < ws.length:=by omega
   have hd:(ws.map AV.str).drop (t * 1)=.str ws[t]::(ws.map AV.str).drop (t+1):=by
    rw [Nat.mul_one,gT (by simpa using aQ)]; simp
   have sT:ws.drop t=ws[t]::ws.drop (t+1):=gT aQ
   rw [sT] at O
   simp only [Cq,iZ,hd,ox,bA]
   refine ⟨by omega,?_⟩
   unfold DN at O
   refine dA S O fun a7 S O=>?_
   obtain ⟨g1,g2⟩:=hF _ S.hi (by omega)
   refine iB S g1 g2 O fun ns j2 bO rV xx S O=>?_
   simp only [dN]
   refine ⟨bI (by omega) (by omega),ws.length - (t+1),by omega,t+1,_,_,aQ,rfl,rfl,rfl,rfl,rfl,rfl,by omega,S,O⟩
 . have:t=ws.length:=by omega
   subst this
   rw [List.drop_length] at O
   exact h _ _ _ S O
theorem Ok {fu:Nat} (hi:i <= X.L.length) (hF:je X fu i):Ct X 158 i ((bL X.L oe i).bind fun _ j=>(bD X.L X.E fu j).bind fun c j=>(bL X.L oy j).bind fun _ j=>(bD X.L X.E fu j).bind fun a j=>(bL X.L eU j).bind fun _ j=>(bD X.L X.E fu j).bind fun b j=>.ok (node 10 [] 0 0 (de X.L X.E i) (c++a++b)) j):=by
 intro r U R hr O
 refine Re ?_
 unfold Rc
 refine gG hr hi fun k aR S=>?_
 rw [gp]
 refine ⟨by omega,?_⟩
 rw [eG (o:=0) (s:=1) rfl]
 refine ⟨⟨rfl,rfl,by simp [bN]⟩,?_⟩
 rw [eG (o:=1) (s:=1) rfl]
 refine ⟨⟨rfl,rfl,by simp [bN,ay]⟩,?_⟩
 rw [eG (o:=2) (s:=1) rfl]
 refine ⟨⟨rfl,rfl,by simp [bN,ay]⟩,?_⟩
 rw [ig]
 refine ⟨rfl,?_⟩
 simp only [tX,al]
 exact Jm (fin:=fun acc j=>.ok (node 10 [] 0 0 (de X.L X.E i) acc) j) hF [oe,oy,eU] (by simp) (cX _) S rfl O fun acc j ad S O=>eI S O
theorem Yf {fu:Nat} (hi:i <= X.L.length) (hF:je X fu i):Ct X 159 i ((bL X.L fW i).bind fun _ j=>(bD X.L X.E fu j).bind fun a j=>(bL X.L sE j).bind fun _ j=>(bD X.L X.E fu j).bind fun b j=>.ok (node 11 [] 0 0 (de X.L X.E i) (a++b)) j):=by
 intro r U R hr O
 refine Rh ?_
 unfold Rf
 refine gG hr hi fun k aR S=>?_
 rw [gp]
 refine ⟨by omega,?_⟩
 rw [eG (o:=0) (s:=1) rfl]
 refine ⟨⟨rfl,rfl,by simp [bN]⟩,?_⟩
 rw [eG (o:=1) (s:=1) rfl]
 refine ⟨⟨rfl,rfl,by simp [bN,ay]⟩,?_⟩
 rw [ig]
 refine ⟨rfl,?_⟩
 simp only [tX,al]
 exact Jm (fin:=fun acc j=>.ok (node 11 [] 0 0 (de X.L X.E i) acc) j) hF [fW,sE] (by simp) (cX _) S rfl O fun acc j ad S O=>eI S O
theorem mF {fu i0:Nat} {q:List Nd->Nat->PR (List Nd)} (hF:je X fu i0) (h0:i0 < i) (S:Sk X aq r k i kind text n m at_ l U) (O:Out X r aq R ((bD X.L X.E fu i).bind q))
 (h:∀ ns j ad,j <= X.L.length->i < j->Sk X aq r k j kind text n m at_ (l++ns) ad->Out X r aq R (q ns j)->K' (.box k 0) ad) :
 ae K 169 [.box r 0] U (ag (fun v U=>(ar (some (87,1)) (some [AV.aY]) 1 false [(0,v)]).wp K U (fun v U=>ae K 103 [.box k 0,v] U (ag K' (aa R))) (aa R)) (aa R)) :=
 iB S (hF _ S.hi h0).1 (hF _ S.hi h0).2 O h
theorem XN {fu:Nat} (hi:i <= X.L.length) (hF:je X fu i):Ct X 160 i ((bL X.L kQ i).bind fun _ j=>(gK X.L j).bind fun x j=>(bL X.L ez j).bind fun _ j=>(jm X.L j).bind fun n j=>(bL X.L bV j).bind fun _ j=>(jm X.L j).bind fun m j=>(bL X.L kK j).bind fun _ j=>(bD X.L X.E fu j).bind fun a j=>.ok (node 12 x n m (de X.L X.E i) a) j):=by
 intro r U R hr O
 refine Rj ?_
 unfold Ri
 refine gG hr hi fun k aR S=>?_
 simp only [bS,al,aZ,cU]
 refine dA S O fun _ S O=>nx S O fun x _ S O=>ny S fun _ S=>dA S O fun _ S O=>pq S O fun _ _ S O=>Ad S fun _ S=>dA S O fun _ S O=>pq S O fun _ _ S O=>af6 S fun _ S=>dA S O fun _ S O=>?_
 exact mF hF (by omega) S O fun ns j di hj fP S O=>eI S O
theorem Un {fu:Nat} (hi:i <= X.L.length) (hF:je X fu i):Ct X 161 i ((bL X.L ij i).bind fun _ j=>(gK X.L j).bind fun x j=>(bL X.L kK j).bind fun _ j=>(bD X.L X.E fu j).bind fun a j=>(bL X.L eU j).bind fun _ j=>(bD X.L X.E fu j).bind fun b j=>.ok (node 13 x 0 0 (de X.L X.E i) (a++b)) j):=by
 intro r U R hr O
 refine Rl ?_
 unfold Rk
 refine gG hr hi fun k aR S=>?_
 simp only [bS,al,aZ,cU]
 refine dA S O fun _ S O=>nx S O fun x _ S O=>ny S fun _ S=>dA S O fun _ S O=>?_
 refine mF hF (by omega) S O fun ns j di hj fP S O=>dA S O fun _ S O=>?_
 exact mF hF (by omega) S O fun ns j di hj fP S O=>eI S O
theorem Ol {fu:Nat} (hi:i <= X.L.length) (hF:je X fu i):Ct X 162 i ((bL X.L gq i).bind fun _ j=>(bD X.L X.E fu j).bind fun a j=>(bL X.L eU j).bind fun _ j=>(bD X.L X.E fu j).bind fun b j=>.ok (node 15 [] 0 0 (de X.L X.E i) (a++b)) j):=by
 intro r U R hr O
 refine Rp ?_
 unfold Rm
 refine gG hr hi fun k aR S=>?_
 refine dA S O fun _ S O=>?_
 refine mF hF (by omega) S O fun ns j di hj fP S O=>dA S O fun _ S O=>?_
 exact mF hF (by omega) S O fun ns j di hj fP S O=>eI S O
theorem PL {fu:Nat} (hi:i <= X.L.length) (hF:je X fu i):Ct X 163 i ((bL X.L hZ i).bind fun _ j=>(gK X.L j).bind fun x j=>(bL X.L bV j).bind fun _ j=>(jm X.L j).bind fun n j=>(bL X.L kK j).bind fun _ j=>(bD X.L X.E fu j).bind fun a j=>.ok (node 14 x n 0 (de X.L X.E i) a) j):=by
 intro r U R hr O
 refine Rr ?_
 unfold Rq
 refine gG hr hi fun k aR S=>?_
 simp only [bS,al,aZ,cU]
 refine dA S O fun _ S O=>nx S O fun x _ S O=>ny S fun _ S=>dA S O fun _ S O=>pq S O fun _ _ S O=>Ad S fun _ S=>dA S O fun _ S O=>?_
 exact mF hF (by omega) S O fun ns j di hj fP S O=>eI S O
end
end Go.Rip
namespace Go.Rip
open Go.Proofs Go.RowKit
def kP:List (aK × Nat):=[(gq,162),(oe,158),(ij,161),(kQ,160),(hZ,163),(fW,159)]
theorem Ml:sd=.fY (kP.map fun p=>.str p.1) (kP.map fun p=>.func (.func p.2) [] []):=rfl
theorem va (s:aK) (z:AV):∀ l:List (aK × AV),nT .s (.str s) z true (l.map fun p=>.str p.1) (l.map fun p=>p.2)=.val (.aH [match l.find? (fun p=>p.1=s) with | some p=>p.2 | none=>z,.bool (l.find? (fun p=>p.1=s)).isSome])
 | []=>rfl
 | p::l=>by
   simp only [eC,nT,iw,List.find?_cons]
   by_cases h:s=p.1
   . subst h; simp
   . have h':¬ p.1=s:=fun e=>h e.symm
     simp only [h',eB]
     rw [show (s == p.1)=false by simp [h]]
     simpa using va s z l
theorem Mj (s:aK) (U:St):et (some (.s,186)) (some AV.dV) sd (.str s) true U=.val (.aH [match kP.find? (fun p=>p.1=s) with | some p=>.func (.func p.2) [] [] | none=>.dV,.bool (kP.find? (fun p=>p.1=s)).isSome]):=by
 rw [Ml]
 have:=va s .dV (kP.map fun p=>(p.1,AV.func (.func p.2) [] []))
 simp only [et,kB,qk]
 rw [List.map_map,List.map_map] at this
 rw [show (kP.map fun p=>AV.str p.1)=List.map ((fun p:aK × AV=>AV.str p.1) ∘ fun p=>(p.1,AV.func (.func p.2) [] [])) kP from rfl,show (kP.map fun p=>AV.func (.func p.2) [] [])=List.map ((fun p:aK × AV=>p.2) ∘ fun p=>(p.1,AV.func (.func p.2) [] [])) kP from rfl,this]
 congr 2
 rw [List.find?_map]
 have e:((fun p:aK × AV=>decide (p.1=s)) ∘ fun p:aK × Nat=>(p.1,AV.func (.func p.2) [] []))=fun p=>decide (p.1=s):=rfl
 rw [e]
 cases kP.find? fun p=>decide (p.1=s) <;> rfl
theorem JH (o:Option Tk):Pure K 61 [.agg (rX o)] (.bool (vN o [dI,ga,eg])):=by
 refine Pure.of ?_ rfl (fun U=>rfl) fun R hR=>?_
 . cases o <;> rfl
 refine U2 ?_
 have ht:(rX o).length=3:=by cases o <;> rfl
 unfold W3
 rw [fA rfl]
 intro b hb
 rw [show au (.agg (rX o))=rX o from rfl,o5 aG]
 refine ⟨by simp [ht],?_⟩
 rw [gp]
 refine ⟨by omega,?_⟩
 rw [eG (o:=0) (s:=1) rfl]
 refine ⟨⟨rfl,rfl,by simp [bN]⟩,?_⟩
 rw [eG (o:=1) (s:=1) rfl]
 refine ⟨⟨rfl,rfl,by simp [bN,ay]⟩,?_⟩
 rw [eG (o:=2) (s:=1) rfl]
 refine ⟨⟨rfl,rfl,by simp [bN,ay]⟩,?_⟩
 rw [ig]
 refine ⟨rfl,?_⟩
 rw [eD,qC (by omega)]
 exact B2 (c:=.full) o [dI,ga,eg] (by simp) fun ad _=>ak.mk (hR ad)
theorem Yn (L:List Tk) (i:Nat):vN L[i]? [dI,ga,eg]=tj L i:=by
 unfold vN tj bj
 cases h:L[i]? with
 | none=>rfl
 | some t =>
   simp only [h]
   cases hk:(t.k == 3 || t.k == 4) with
   | false=>simp
   | true =>
     simp only [Bool.true_and]
     rw [pU]
     simp [or_assoc]
section
variable {X:Rx} {aq U:St} {r k i:Nat} {R:cR->St->Prop} {K':AV->St->Prop} {Kp:AV->St->Prop} {f:FuncId}
theorem acq {kM:FuncId} (he:eX K.P kM=true) {c:List AV}:(iN K.P (.func (.func kM) [] []) [.box r 0]).wp K U K' Kp=ae K kM [.box r 0] U (ag K' Kp):=by
 simp [iN,he]
def Co (X:Rx) (i lev:Nat) (p:PR (List Nd)):Prop:=∀ (r:Nat) (U:St) (R:cR->St->Prop),U.box r=some (rd X i)->Out X r U R p->ae K 219 [.box r 0,.int .i64 (lev:Nat)] U R
theorem XV {s:aK} {p:aK × Nat} (h:kP.find? (fun p=>p.1=s)=some p):p ∈ kP/\p.1=s:=⟨List.mem_of_find?_eq_some h,by simpa using List.find?_some h⟩
theorem TD {fu:Nat} (hi:i <= X.L.length) (hF:je X fu i) (hO:Co X i 2 (eE X.L X.E fu 2 i)):Ct X 169 i (bD X.L X.E (fu+1) i):=by
 intro r U R hr O
 refine RC ?_
 unfold RB
 refine qE hr hi 0 (by omega) fun aR e1=>?_
 rw [Nat.add_zero]
 obtain ⟨kd,s,a,e,hm⟩:=vq X.L[i]?
 rw [e]
 simp only [bB,kO]
 intro b hb
 have H0:=e1.aX hr
 have e2:=e1.new (x:=.box [AV.int .u8 0,AV.str [],AV.int .i64 0]) hb
 rw [show NV.at b .box=AV.box b 0 from rfl,cI aG]
 refine ⟨⟨rfl,rfl,by simp⟩,?_⟩
 have e3:=e2.set (x:=.box (ay [AV.int .u8 0,AV.str [],AV.int .i64 0] 0 (au (.agg [.int .u8 kd,.str s,.int .i64 a])))) (e1.fresh hb.1)
 generalize p6:(aR.new b (.box [AV.int .u8 0,AV.str [],AV.int .i64 0])).set b (.box (ay [AV.int .u8 0,AV.str [],AV.int .i64 0] 0 (au (.agg [.int .u8 kd,.str s,.int .i64 a]))))=bO at e3 ⊢
 have lq:bO.box b=some [.int .u8 kd,.str s,.int .i64 a]:=by rw [<- p6,aV]; rfl
 have yL:=e3.aX hr
 have A3:gr r (rd X i) U bO:=.mg hr e3
 replace O:=O.jb A3
 have fT:∀ t,X.L[i]?=some t->s=t.s/\kd=t.k:=fun t ht=>by
  rw [ht] at e; simp only [rX,qf,List.cons.injEq,AV.str.injEq,AV.int.injEq,true_and] at e; exact ⟨e.2.1.symm,e.1.symm⟩
 simp only [bS,aJ,aZ,su yL,rd,List.drop,jF,cU,su lq,Mj,bu,bf,aN,rF]
 have V4:∀ w ∈ kP.map (·.1),bj X.L i w=true->kd=3/\s=w:=fun w hw h=>by
  have:∀ w ∈ kP.map (·.1),w ∈ ni:=by decide
  obtain ⟨t,ht,hk,hs⟩:=X1 X.ok (this w hw) h
  obtain ⟨h1,h2⟩:=fT t ht
  exact ⟨by omega,h1.trans hs⟩
 have fin:(¬ (kd=3/\s ∈ kP.map (·.1)))->(∀ w ∈ kP.map (·.1),bj X.L i w=false):=fun h w hw=>by
  cases hx:bj X.L i w with
  | false=>rfl
  | true=>obtain ⟨h1,h2⟩:=V4 w hw hx; exact absurd ⟨h1,h2 ▸ hw⟩ h
 by_cases hc:kd=3/\s ∈ kP.map (·.1)
 . obtain ⟨h3,hs⟩:=hc
   obtain ⟨t,ht,hk,rW⟩:=(hm 3 (by omega)).1 h3
   subst h3
   have Ib:bj X.L i s=true:=X2 ht (.inl hk) rW
   have cn:∀ w ∈ kP.map (·.1),w ≠ s->¬ (bj X.L i w=true):=fun w hw hn h=>hn (V4 w hw h).2.symm
   have key:∃ kM,kP.find? (fun p=>p.1=s)=some (s,kM)/\eX K.P kM=true/\∃ p,Ct X kM i p/\bD X.L X.E (fu+1) i=p:=by
    have hnd:bL X.L s i=.ok () (i+1):=by simp [bL,Ib]
    have eO:s ∈ kP.map (·.1):=hs
    simp only [kP,eC,nu,cD,List.not_mem_nil,or_false] at hs
    rcases hs with rfl | rfl | rfl | rfl | rfl | rfl
    . exact ⟨162,rfl,by kernel_rfl,_,Ol hi hF,by rw [bD,if_neg (cn _ (by decide) (by decide)),if_neg (cn _ (by decide) (by decide)),if_neg (cn _ (by decide) (by decide)),if_neg (cn _ (by decide) (by decide)),if_pos Ib,hnd]; rfl⟩
    . exact ⟨158,rfl,by kernel_rfl,_,Ok hi hF,by rw [bD,if_pos Ib,hnd]; rfl⟩
    . exact ⟨161,rfl,by kernel_rfl,_,Un hi hF,by rw [bD,if_neg (cn _ (by decide) (by decide)),if_neg (cn _ (by decide) (by decide)),if_neg (cn _ (by decide) (by decide)),if_pos Ib,hnd]; rfl⟩
    . exact ⟨160,rfl,by kernel_rfl,_,XN hi hF,by rw [bD,if_neg (cn _ (by decide) (by decide)),if_neg (cn _ (by decide) (by decide)),if_pos Ib,hnd]; rfl⟩
    . exact ⟨163,rfl,by kernel_rfl,_,PL hi hF,by rw [bD,if_neg (cn _ (by decide) (by decide)),if_neg (cn _ (by decide) (by decide)),if_neg (cn _ (by decide) (by decide)),if_neg (cn _ (by decide) (by decide)),if_neg (cn _ (by decide) (by decide)),if_pos Ib,hnd]; rfl⟩
    . exact ⟨159,rfl,by kernel_rfl,_,Yf hi hF,by rw [bD,if_neg (cn _ (by decide) (by decide)),if_pos Ib,hnd]; rfl⟩
   obtain ⟨kM,h1,h2,p,h3,h4⟩:=key
   rw [h1]
   simp only [Option.isSome_some,gR,cx,aJ,mj,su lq,List.drop,jF,br,du,aM,if_true,al,bE]
   rw [acq h2 (c:=[])]
   rw [h4] at O
   exact AN h3 yL O
 . have hw:=fin hc
   have hf:∀ w ∈ kP.map (·.1),¬ (bj X.L i w=true):=fun w h=>by rw [hw w h]; simp
   rw [bD,if_neg (hf _ (by decide)),if_neg (hf _ (by decide)),if_neg (hf _ (by decide)),if_neg (hf _ (by decide)),if_neg (hf _ (by decide)),if_neg (hf _ (by decide))] at O
   have aeV:∀ (c:Option (aK × Nat)) (A B:Prop),kP.find? (fun p=>p.1=s)=c->(c.isSome=true->kd ≠ 3):=fun c A B h1 h2 h3=>by
    cases c with
    | none=>cases h2
    | some p=>exact hc ⟨h3,by obtain ⟨k1,k2⟩:=XV h1; exact List.mem_map.2 ⟨p,k1,k2⟩⟩
   have sel:∀ (V:AV) (A B:Prop),B->aw (.bool false) A B:=fun _ _ _ hB=>by rw [bm]; exact hB
   have rest:jR 2
    (fun v0 hX U =>
      aw hX (
    ae K 99 [v0,(AV.int .u8 16)] U (ag (fun gH U =>
    ae K 101 [v0] U (ag (fun jv U =>
    (aW gH).wp K U (fun lO U =>
    (af (some 0) lO).wp K U (fun iW U =>
    (af (some 1) iW).wp K U (fun nz U =>
    (aF (some (false,1)) nz jv U).wp K U (fun _ U =>
    ae K 102 [v0,(AV.str bV)] U (ag (fun v46 U =>
    ae K 169 [v0] U (ag (fun v49 U =>
    (ar (some (87,1)) (some [AV.aY]) 1 false [(0,v49)]).wp K U (fun jG U =>
    ae K 103 [gH,jG] U (ag (fun v51 U =>
    ak R v51 U) (aa R))) (aa R)) (aa R))) (aa R))) (aa R)) (aa R)) (aa R)) (aa R)) (aa R))) (aa R))) (
    ae K 219 [v0,(AV.int .i64 2)] U (ag (fun v53 U =>
    ak R v53 U) (aa R)))) (fun j =>
     aD.wp K bO
      (fun ej U =>
        aD.wp K U
         (fun v30 U =>
           ao K (aP v30 true) (aD.val (AV.box r 0)) fun fI =>
            aw (aP v30 true)
             (ae K 167 [fI,AV.int IntKind.i64 1] U
               (ag
                 (fun fC U =>
                   ao K (aP v30 true)
                    (ar (some (9,1)) (some [AV.str []]) 1 false [(0,AV.str bV)]) fun ic =>
                    ao K (aP v30 true) (aD.enter 121 [fC,ic]) fun hU =>
                     aD.wp K U (fun qo U=>j (AV.box r 0) qo U) (aa R)
                      (bQ v30 hU (AV.bool false)))
                 (aa R)))
             (ao K (aP v30 true)
               (ar (some (9,1)) (some [AV.str []]) 1 false [(0,AV.str bV)]) fun DI =>
               ao K (aP v30 true) (aD.enter 121 [AV.aH [],DI]) fun DJ =>
                aD.wp K U (fun qo U=>j (AV.box r 0) qo U) (aa R)
                 (bQ v30 DJ (AV.bool false))))
         (aa R)
         (ax BinOp.eql { b:=false,i:=false,p:=false,f:=none,s:=false } true ej (AV.int IntKind.u8 1)))
      (aa R) (aj (some (false,1)) (AV.box b 0) bO)):=by
    intro j hj
    have yes:qx X.L i 1=true->bj X.L (i+1) bV=true->∀ cG,gr r (rd X i) bO cG->j (.box r 0) (.bool true) cG:=fun g1 g2 cG A4=>by
     refine hj _ _ _ ?_
     rw [if_pos ⟨g1,g2⟩] at O
     replace O:=O.jb A4
     rw [bE]
     refine gG A4.box hi fun k di S=>?_
     simp only [bS,al,aZ,cU]
     refine nx S O fun x _ S O=>ny S fun _ S=>dA S O fun _ S O=>?_
     exact mF hF (by omega) S O fun ns j di hj fP S O=>eI S O
    have no:¬ (qx X.L i 1=true/\bj X.L (i+1) bV=true)->∀ cG,gr r (rd X i) bO cG->j (.box r 0) (.bool false) cG:=fun g cG A4=>by
     refine hj _ _ _ ?_
     rw [if_neg g] at O
     replace O:=O.jb A4
     rw [bm]
     exact hO r cG _ A4.box ⟨fun ns j e hj a ad hk A=>ak.mk (O.ok ns j e hj a ad hk A),O.bad⟩
    have qN:qx X.L i 1=decide (kd=1):=by
     unfold qx
     cases ht:X.L[i]? with
     | none=>rw [ht] at e; simp only [rX,List.cons.injEq,AV.int.injEq,true_and] at e; simp [<- e.1]
     | some t=>obtain ⟨_,h2⟩:=fT t ht; rw [h2]; rw [pU]; simp; omega
    rw [gz lq]
    simp only [List.drop,bA,br,al,bf]
    by_cases h1:kd=1
    . simp only [h1,du,gR,aN,cx,aJ,mj,bE]
      refine qE yL hi 1 (by omega) fun cG e4=>?_
      simp only [bB]
      rw [ya]
      refine ⟨by omega,?_⟩
      rw [uB (o:=0) (s:=1) rfl]
      refine ⟨⟨rfl,rfl,by simp [bN]⟩,?_⟩
      rw [AI]
      refine ⟨rfl,_,MN (c:=.full) (X.L[i+1]?) [bV] (by simp) rfl,?_⟩
      rw [AH]
      simp only [aM,if_true,al]
      cases Wp:bj X.L (i+1) bV with
      | true=>exact yes (by rw [qN]; simp [h1]) Wp _ (.mg yL e4)
      | false=>exact no (by rw [Wp]; simp) _ (.mg yL e4)
    . have Fc:(decide (kd=1) == true)=false:=by simp [h1]
      simp only [Fc,aN,cF,bm,h1,eB,aM,bU,if_false,al]
      simp only [beq_true,cF,bm]
      exact no (by rw [qN]; simp [h1]) _ ⟨yL,kL.refl _ _⟩
   cases ui:kP.find? (fun p=>p.1=s) with
   | none =>
     simp only [Option.isSome_none,cF,show (false == true)=false from rfl,aM,bU,if_false,al,bm]
     exact rest
   | some p =>
     have h3:¬ kd=3:=aeV _ True True ui rfl
     simp only [Option.isSome_some,gR,cx,aJ,mj,su lq,List.drop,jF,br,h3,eB,aM,if_true,al,bm]
     exact rest
end
end Go.Rip
namespace Go.Rip
open Go.Proofs Go.RowKit
def wR (lev:Nat):List (aK × Int) :=
 if lev=2 then [(Cr,17)] else if lev=3 then [(yp,18)] else if lev=5 then [(sN,21),(gY,20)] else if lev=6 then [(sM,22),(rP,23)] else if lev=7 then [(tS,24)] else if lev=8 then [(uN,25)] else []
def WJ (lev:Nat):AV:=.fY ((wR lev).map fun p=>.str p.1) ((wR lev).map fun p=>.int .u8 p.2)
theorem Uy (lev:Nat) (h:lev=2\/lev=3\/lev=5\/lev=6\/lev=7\/lev=8) (U:St):et (some (.i,185)) (some AV.jE) zP (.int .i64 (lev:Nat)) false U=.val (WJ lev):=by
 rcases h with rfl | rfl | rfl | rfl | rfl | rfl <;> rfl
theorem Uz (lev:Nat) (s:aK) (U:St):et (some (.s,5)) (some (AV.int .u8 0)) (WJ lev) (.str s) true U=.val (.aH [.int .u8 (match (wR lev).find? (fun p=>p.1=s) with | some p=>p.2 | none=>0),.bool ((wR lev).find? (fun p=>p.1=s)).isSome]):=by
 have:=va s (.int .u8 0) ((wR lev).map fun p=>(p.1,AV.int .u8 p.2))
 rw [List.map_map,List.map_map,List.find?_map] at this
 simp only [et,kB,qk,WJ]
 rw [show ((wR lev).map fun p=>AV.str p.1)=List.map ((fun p:aK × AV=>AV.str p.1) ∘ fun p=>(p.1,AV.int .u8 p.2)) (wR lev) from rfl,show ((wR lev).map fun p=>AV.int .u8 p.2)=List.map ((fun p:aK × AV=>p.2) ∘ fun p=>(p.1,AV.int .u8 p.2)) (wR lev) from rfl,this]
 have e:((fun p:aK × AV=>decide (p.1=s)) ∘ fun p:aK × Int=>(p.1,AV.int .u8 p.2))=fun p=>decide (p.1=s):=rfl
 rw [e]
 cases (wR lev).find? fun p=>decide (p.1=s) <;> rfl
theorem Ls (L:List Tk) (lev i:Nat):pg L lev i=((wR lev).find? (fun p=>p.1=sy L[i]?)).map (·.2):=by
 have hw:∀ w:aK,w ≠ []->bj L i w=decide (w=sy L[i]?):=fun w h=>by rw [Fv h]; simp [eq_comm]
 unfold pg wR
 rw [hw Cr (by decide),hw yp (by decide),hw gY (by decide),hw sN (by decide),hw sM (by decide),hw rP (by decide),hw tS (by decide),hw uN (by decide)]
 generalize sy L[i]?=s
 repeat' split
 all_goals simp_all
 all_goals (subst_vars; rfl)
section
variable {X:Rx} {aq U:St} {r k i:Nat} {kind:Int} {text:aK} {n m at_:Int} {l:List Nd} {R:cR->St->Prop} {K':AV->St->Prop} {Kp:AV->St->Prop}
theorem LB (hr:U.box r=some (rd X i)) (hi:i <= X.L.length) (h:∀ ad,cW U ad->R (.ret (.str (sy X.L[i]?))) ad):ae K 253 [.box r 0] U R:=by
 refine Sv ?_
 unfold Su
 refine qE hr hi 0 (by omega) fun aR e1=>?_
 rw [Nat.add_zero]
 have qi:∃ kd s a,rX X.L[i]?=[.int .u8 kd,.str s,.int .i64 a]/\sy X.L[i]?=if kd=3\/kd=4 then s else []:=by
  cases ht:X.L[i]? with
  | none=>exact ⟨0,[],0,rfl,rfl⟩
  | some t =>
    refine ⟨t.k,t.s,t.at_,rfl,?_⟩
    have e3:((t.k:Int)=3)=(t.k=3):=by simp; omega
    have e4:((t.k:Int)=4)=(t.k=4):=by simp; omega
    simp only [sy,e3,e4]
 obtain ⟨kd,s,a,e,hsg⟩:=qi
 rw [e]
 rw [hsg] at h
 simp only [bB,kO]
 intro b hb
 have e2:=e1.new (x:=.box [AV.int .u8 0,AV.str [],AV.int .i64 0]) hb
 rw [show NV.at b .box=AV.box b 0 from rfl,cI aG]
 refine ⟨⟨rfl,rfl,by simp⟩,?_⟩
 have e3:=e2.set (x:=.box (ay [AV.int .u8 0,AV.str [],AV.int .i64 0] 0 (au (.agg [.int .u8 kd,.str s,.int .i64 a])))) (e1.fresh hb.1)
 generalize p6:(aR.new b (.box [AV.int .u8 0,AV.str [],AV.int .i64 0])).set b (.box (ay [AV.int .u8 0,AV.str [],AV.int .i64 0] 0 (au (.agg [.int .u8 kd,.str s,.int .i64 a]))))=bO at e3 ⊢
 have lq:bO.box b=some [.int .u8 kd,.str s,.int .i64 a]:=by rw [<- p6,aV]; rfl
 simp only [aZ,al,gz lq,List.drop,bA,cU,br,bf,aN,rF,cx]
 by_cases h3:kd=3
 . subst h3
   simp [gz lq,bA]
   exact ak.mk (h _ e3)
 . by_cases h4:kd=4
   . subst h4
     simp [gz lq,su lq,bA]
     exact ak.mk (h _ e3)
   . simp [gz lq,su lq,bA,h3,h4]
     refine ak.mk ?_
     have:=h _ e3
     rw [if_neg (by omega)] at this
     exact this
theorem SF (S:Sk X aq r k i kind text n m at_ l U) (aQ:i < X.L.length) {bt:BT} {lit:Bool} (h:∀ ad,Sk X aq r k (i+1) kind text n m at_ l ad->K' (.aH []) ad) :
 (aj (some (false,1)) (.box r 1) U).wp K U (fun v U=>(ax .add bt lit v (.int .i64 1)).wp K U (fun v U=>(aF (some (false,1)) (.box r 1) v U).wp K U K' Kp) Kp) Kp:=by
 have hs:=X.small
 have hr:=S.A.box
 simp only [gz hr,rd,List.drop,bA,dN]
 refine ⟨bI (by omega) (by omega),?_⟩
 rw [cI hr]
 refine ⟨⟨rfl,rfl,by simp [rd]⟩,h _ (S.jb (j:=i+1) ⟨?_,(kL.refl r U).set (.inr rfl)⟩ aQ (by omega))⟩
 rw [aV]; simp [ay,rd]
theorem eA.ne_nil:∀ {b:Bool} {ks:List AV} {l:List Nd},eA b ks l->b=true->l=[]->ks=[]:=by
 have h1:∀ {b:Bool} {ks:List AV} {l:List Nd},eA b ks l->b=false->l ≠ []:=fun h e=>by
  cases h with
  | mk _ _=>simp [node]
  | nil=>cases e
  | cons _ _=>cases e
 intro b ks l h e hl
 cases h with
 | mk _ _=>cases e
 | nil=>rfl
 | cons a c=>exact absurd (List.append_eq_nil_iff.1 hl).1 (h1 a rfl)
theorem eA.dc {a:AV} {ns:List Nd} (hk:eA false [a] ns):a.dc=true/\au a=[a]:=by
 generalize hb:false=b at hk
 generalize hl:[a]=la at hk
 cases hk with
 | mk _ _=>cases hl; exact ⟨rfl,rfl⟩
 | nil=>cases hl
 | cons _ _=>cases hb
theorem Jl {a:AV} {ns:List Nd} (S:Sk X aq r k i kind text n m at_ [] U) (hk:eA false [a] ns) (h:∀ a' ad,eA false [a'] (node kind text n m at_ ns)->gr r (rd X i) aq ad->K' a' ad) :
 (ar (some (87,1)) (some [AV.aY]) 1 false [(0,a)]).wp K U (fun v U=>ae K 103 [.box k 0,v] U (ag K' Kp)) Kp:=by
 obtain ⟨ks,h1,h2,h3⟩:=S.M
 have:=h2.ne_nil rfl rfl
 subst this
 rw [gp]
 refine ⟨by omega,?_⟩
 rw [eG (o:=0) (s:=1) rfl]
 refine ⟨⟨hk.dc.1,by rw [hk.dc.2]; rfl,by simp [bN]⟩,?_⟩
 rw [ig,hk.dc.2]
 refine ⟨rfl,?_⟩
 exact LO (l2:=[a]) h1 S.A (by omega) rfl (by simp) fun ad M A=>M.done (h2.snoc hk) A fun a' ad hk A=>h a' ad hk A
theorem Vl {a b:AV} {ns ms:List Nd} (S:Sk X aq r k i kind text n m at_ [] U) (hk:eA false [a] ns) (gl:eA false [b] ms) (h:∀ a' ad,eA false [a'] (node kind text n m at_ (ns++ms))->gr r (rd X i) aq ad->K' a' ad) :
 (ar (some (87,1)) (some [AV.aY]) 2 false [(0,a),(1,b)]).wp K U (fun v U=>ae K 103 [.box k 0,v] U (ag K' Kp)) Kp:=by
 obtain ⟨ks,h1,h2,h3⟩:=S.M
 have:=h2.ne_nil rfl rfl
 subst this
 rw [gp]
 refine ⟨by omega,?_⟩
 rw [eG (o:=0) (s:=1) rfl]
 refine ⟨⟨hk.dc.1,by rw [hk.dc.2]; rfl,by simp [bN]⟩,?_⟩
 rw [hk.dc.2]
 rw [eG (o:=1) (s:=1) rfl]
 refine ⟨⟨gl.dc.1,by rw [gl.dc.2]; rfl,by simp [bN,ay]⟩,?_⟩
 rw [ig,gl.dc.2]
 refine ⟨rfl,?_⟩
 exact LO (l2:=[a,b]) h1 S.A (by omega) rfl (by simp) fun ad M A=>M.done (by simpa using (h2.snoc hk).snoc gl) A fun a' ad hk A=>h a' ad hk A
def GZ (X:Rx) (fu:Nat):Prop:=∀ f',f' <= fu->∀ j lev,j <= X.L.length->2 <= lev->lev <= 9->40 * (X.L.length - j)+(11 - lev) <= f'->Co X j lev (eE X.L X.E f' lev j)/\Gd X.L.length (j+1) j (eE X.L X.E f' lev j)
theorem YA {fu lev:Nat} (hi:i <= X.L.length) (h2:2 <= lev) (h9:lev <= 9) (hf:40 * (X.L.length - i)+(11 - lev) <= fu+1) (hA:lev=9->Ct X 252 i (gI X.L X.E fu i)) (hS:GZ X fu):Co X i lev (eE X.L X.E (fu+1) lev i):=by
 intro r U R hr O
 refine R3 ?_
 unfold R2
 have hs:=X.small
 simp only [br,al,bY]
 refine ⟨fun e9=>?_,fun n9=>⟨fun e4=>?_,fun n4=>?_⟩⟩
 . have e9:lev=9:=by omega
   rw [eE,if_pos e9] at O
   exact AN (hA e9) hr O
 . have e4:lev=4:=by omega
   have n9:¬ lev=9:=by omega
   rw [eE,if_neg n9,if_pos e4] at O
   refine gG hr hi fun k aR S=>?_
   refine rL S (fun hw a7 S=>?_) fun hw a7 S=>?_
   . rw [if_pos hw] at O
     simp only [bE]
     have aQ:=dw hw
     obtain ⟨g1,g2⟩:=hS fu (cX _) (i+1) 4 aQ (by omega) (by omega) (by omega)
     refine g1 r a7 _ S.A.box ⟨fun ns j e hj a ad hk A=>?_,fun j e ad A=>O.bad j (by rw [e]; rfl) ad (S.A.trans A)⟩
     rw [e] at g2 O
     have fP:i+1 < j:=g2.1
     refine Jl (S.jb A hj (by omega)) hk fun a' ad Bj A'=>?_
     exact ak.mk (O.ok _ _ rfl hj a' ad Bj A')
   . rw [if_neg (by rw [hw]; simp)] at O
     simp only [bm,dN]
     refine ⟨bI (by omega) (by omega),?_⟩
     obtain ⟨g1,g2⟩:=hS fu (cX _) i 5 hi (by omega) (by omega) (by omega)
     subst e4
     refine g1 r a7 _ S.A.box ?_
     replace O:=O.jb S.A
     exact ⟨fun ns j e hj a ad hk A=>ak.mk (O.ok ns j e hj a ad hk A),O.bad⟩
 . have n9:¬ lev=9:=by omega
   have n4:¬ lev=4:=by omega
   rw [eE,if_neg n9,if_neg n4] at O
   rw [dN]
   refine ⟨bI (by omega) (by omega),?_⟩
   obtain ⟨g1,g2⟩:=hS fu (cX _) i (lev+1) hi (by omega) (by omega) (by omega)
   rw [show ((lev:Nat):Int)+1=((lev+1:Nat):Int) by omega]
   refine g1 r U _ hr ⟨fun ns j e hj a aR hk A=>?_,fun j e ad A=>O.bad j (by rw [e]; rfl) ad A⟩
   rw [e] at g2 O
   have fP:i < j:=g2.1
   replace O:Out X r aR R (lQ X.L X.E fu lev ns j):=Out.jb O A
   refine ⟨fun mm v0 v1 v6 ad=>∃ left j f',mm=X.L.length - j/\v0=.box r 0/\v1=.int .i64 (lev:Nat)/\j <= X.L.length/\i < j/\40 * (X.L.length - j)+1 <= f'/\f' <= fu/\eA false [v6] left/\ad.box r=some (rd X j)/\Out X r ad R (lQ X.L X.E f' lev left j),
    ⟨_,ns,j,fu,rfl,rfl,rfl,hj,fP,by omega,cX _,hk,A.box,O⟩,?_⟩
   clear hk A O fP hj e g1 g2
   rintro mm v0 v1 v6 a7 ⟨left,j,f',rfl,rfl,rfl,hj,fP,VW,HL,hk,uo,O⟩
   cases f' with
   | zero=>omega
   | succ f' =>
     rw [lQ,Ls] at O
     simp only [bS,aJ,aZ,cU,su uo,rd,List.drop,jF,Uy lev (by omega)]
     refine LB uo hj fun bO e3=>?_
     simp only [bB]
     refine ⟨?_,?_,?_⟩
     . intro b hb
       simp only [eL,zP,jN,gy,jz,cD,List.not_mem_nil,or_false] at hb
       subst hb
       cases e:a7.live b with
       | none=>exact absurd e (cj uo)
       | some x=>exact e3 b x e
     . intro b hb
       simp [eL,WJ] at hb
     simp only [Uz,aJ,bu,List.drop,jF,ey,al]
     have A3:gr r (rd X j) a7 bO:=.mg uo e3
     cases hop:(wR lev).find? fun p=>p.1=sy X.L[j]? with
     | none =>
       rw [hop] at O
       simp only [Option.isSome_none,eQ,bE]
       exact ak.mk (O.ok _ _ rfl hj _ bO hk A3)
     | some p =>
       rw [hop] at O
       replace O:=O.jb A3
       simp only [Option.isSome_some,c8,bm]
       have aQ:j < X.L.length:=Lt (lev:=lev) (k:=p.2) (by rw [Ls,hop]; rfl)
       refine gG A3.box hj fun k cG S=>?_
       simp only [bS,al,aZ,cU]
       refine SF S aQ fun di S=>?_
       simp only [br,al,bY]
       simp only [Option.map_some] at O
       refine ⟨fun e8=>?_,fun n8=>?_⟩
       . have e8:lev=8:=by omega
         rw [if_pos e8] at O
         refine pq S O fun x mK S O=>Ad S fun jo S=>?_
         have lr:=S.hi
         refine Jl S hk fun a' ad Bj A'=>?_
         exact ⟨_,by omega,_,j+1+1,f',rfl,rfl,rfl,S.hi,by omega,by omega,by omega,Bj,A'.box,O.jb A'⟩
       . have n8:¬ lev=8:=by omega
         rw [if_neg n8] at O
         simp only [dN]
         refine ⟨bI (by omega) (by omega),?_⟩
         obtain ⟨g1,g2⟩:=hS f' (by omega) (j+1) (lev+1) aQ (by omega) (by omega) (by omega)
         rw [show ((lev:Nat):Int)+1=((lev+1:Nat):Int) by omega]
         refine g1 r di _ S.A.box ⟨fun ns j2 e rV b mK hkb A=>?_,fun j e ad A=>O.bad j (by rw [e]; rfl) ad (S.A.trans A)⟩
         rw [e] at g2 O
         have xx:j+1 < j2:=g2.1
         refine Vl (S.jb A rV (by omega)) hk hkb fun a' ad Bj A'=>?_
         replace O:Out X r bO R (if lev=5 then .ok (node p.2 [] 0 0 (de X.L X.E j) (left++ns)) j2 else lQ X.L X.E f' lev (node p.2 [] 0 0 (de X.L X.E j) (left++ns)) j2):=O
         refine ⟨fun e5=>?_,fun n5=>?_⟩
         . rw [if_pos (by omega)] at O
           exact ak.mk (O.ok _ _ rfl rV a' ad Bj A')
         . rw [if_neg (by omega)] at O
           exact ⟨_,by omega,_,j2,f',rfl,rfl,rfl,rV,by omega,by omega,by omega,Bj,A'.box,O.jb A'⟩
end
end Go.Rip
namespace Go.Rip
open Go.Proofs Go.RowKit
theorem eA.size {a:AV} {l:List Nd} (h:eA false [a] l):∃ x r,l=x::r/\x.size=(l.length:Int):=by
 generalize hb:false=b at h
 generalize hl:[a]=la at h
 cases h with
 | mk _ _=>exact ⟨_,_,rfl,by simp [node]⟩
 | nil=>cases hl
 | cons _ _=>cases hb
theorem eA.count:∀ {ks ks':List AV} {l:List Nd},eA true ks l->eA true ks' l->ks.length=ks'.length
 | [],ks',l,h,h'=>by
   have:l=[]:=by
    generalize hb:true=b at h
    generalize hl:([]:List AV)=la at h
    cases h with
    | mk _ _=>cases hb
    | nil=>rfl
    | cons _ _=>cases hl
   rw [h'.ne_nil rfl this]
 | a::ks,ks',l,h,h'=>by
   generalize hb:true=b at h
   generalize hl:a::ks=la at h
   cases h with
   | mk _ _=>cases hb
   | nil=>cases hl
   | @cons a1 ks1 l1 l2 h1 h2 =>
     cases hl
     obtain ⟨x,r,e1,e2⟩:=h1.size
     generalize CV:l1++l2=ll at h'
     generalize ff:true=b' at h'
     cases h' with
     | mk _ _=>cases ff
     | nil=>rw [e1] at CV; cases CV
     | @cons a3 ks3 l3 l4 h3 h4 =>
       obtain ⟨y,r',e3,e4⟩:=h3.size
       have Bq:x=y:=by rw [e1,e3] at CV; simpa using congrArg List.head? CV
       have hlen:l1.length=l3.length:=by rw [Bq] at e2; omega
       obtain ⟨_,h24⟩:=List.append_inj CV hlen
       subst h24
       simp [eA.count h2 h4]
section
variable {X:Rx} {aq U:St} {r k i:Nat} {kind:Int} {text:aK} {n m at_:Int} {l:List Nd} {R:cR->St->Prop} {K':AV->St->Prop} {Kp:AV->St->Prop} {w:aK}
theorem Vm {q:Unit->Nat->PR (List Nd)} (hr:U.box r=some (rd X i)) (hi:i <= X.L.length) (O:Out X r U R ((bL X.L w i).bind q)) (h:∀ ad,i+1 <= X.L.length->gr r (rd X (i+1)) U ad->Out X r ad R (q () (i+1))->K' (.aH []) ad):ae K 102 [.box r 0,.str w] U (ag K' (aa R)) :=
 Eg hr hi w (fun e hl ad A=>h ad hl A (by rw [e] at O; exact Out.jb O A)) fun e ad A=>O.bad _ (by rw [e]; rfl) _ A
theorem Ew (S:Sk X aq r k i kind text n m at_ l U) (hb:bj X.L i w=true) (h:∀ ad,Sk X aq r k (i+1) kind text n m at_ l ad->K' (.aH []) ad):ae K 102 [.box r 0,.str w] U (ag K' Kp) :=
 Eg S.A.box S.hi w (fun e hl ad A=>h ad (S.jb A hl (by omega))) fun e ad A=>by simp [bL,hb] at e
structure Below (X:Rx) (fu:Nat):Prop where
 term:∀ f',f' <= fu->∀ j,j <= X.L.length->40 * (X.L.length - j)+11 <= f'->Ct X 109 j (ia X.L X.E f' j)
 first:∀ f',f' <= fu->∀ j,j <= X.L.length->40 * (X.L.length - j)+10 <= f'->Ct X 169 j (bD X.L X.E f' j)
 oper:∀ f',f' <= fu->∀ j lev,j <= X.L.length->2 <= lev->lev <= 9->40 * (X.L.length - j)+(11 - lev) <= f'->Co X j lev (eE X.L X.E f' lev j)
 atom:∀ f',f' <= fu->∀ j,j <= X.L.length->40 * (X.L.length - j)+1 <= f'->Ct X 252 j (gI X.L X.E f' j)
 arg:∀ f',f' <= fu->∀ j,j <= X.L.length->40 * (X.L.length - j)+12 <= f'->Ct X 269 j (jy X.L X.E f' j)
theorem Below.OD {fu i:Nat} (B:Below X fu) (hf:40 * (X.L.length - i)+10 <= fu+40):je X fu i:=fun j hj fP =>
 ⟨B.first fu (cX _) j hj (by omega),(zm fu).2.2.1 j hj (by omega)⟩
theorem Below.ops {fu:Nat} (B:Below X fu):GZ X fu:=fun f' hf j lev hj h2 h9 he=>⟨B.oper f' hf j lev hj h2 h9 he,(zm f').2.2.2.1 j lev hj h9 he⟩
theorem XC {fu:Nat} (B:Below X fu) (he:40 * (X.L.length - i)+12 <= fu) {q:List Nd->Nat->PR (List Nd)} (S:Sk X aq r k i kind text n m at_ l U) (O:Out X r aq R ((jy X.L X.E fu i).bind fun a j=>(lG X.L X.E fu a j).bind q))
 (h:∀ ns j ad,j <= X.L.length->i < j->Sk X aq r k j kind text n m at_ (l++ns) ad->Out X r aq R (q ns j)->K' (.aH []) ad):ae K 106 [.box r 0,.box k 0,.func (.func 269) [.box r 0] []] U (ag K' (aa R)):=by
 refine F3 ?_
 unfold Ja
 have mH:eX K.P 269=true:=by kernel_rfl
 rw [GS mH (c:=[])]
 simp only [Dl]
 have C:∀ f',f' <= fu->∀ j,j <= X.L.length->40 * (X.L.length - j)+12 <= f'->Ct X 269 j (jy X.L X.E f' j)/\Gd X.L.length (j+1) j (jy X.L X.E f' j):=fun f' h1 j h2 h3=>⟨B.arg f' h1 j h2 h3,(zm f').2.2.2.2.2.2.2 j h2 h3⟩
 obtain ⟨c1,c2⟩:=C fu (cX _) i S.hi he
 refine iB S c1 c2 O fun ns j aR hj fP S1 O1=>?_
 refine ⟨fun mm v0 v1 v2 ad=>∃ acc j f',mm=X.L.length - j/\v0=.box r 0/\v1=.box k 0/\v2=.func (.func 269) [.box r 0] []/\j <= X.L.length/\i < j/\40 * (X.L.length - j)+1 <= f'/\f' <= fu/\Sk X aq r k j kind text n m at_ (l++acc) ad/\Out X r aq R ((lG X.L X.E f' acc j).bind q),
  ⟨_,ns,j,fu,rfl,rfl,rfl,rfl,hj,fP,by omega,cX _,S1,O1⟩,?_⟩
 rintro mm v0 v1 v2 a7 ⟨acc,j2,f',rfl,rfl,rfl,rfl,rV,xx,HL,hf3,S2,O2⟩
 cases f' with
 | zero=>omega
 | succ f' =>
   rw [lG] at O2
   refine rL S2 (fun hw bO S3=>?_) (fun hw bO S3=>?_)
   . simp only [bE]
     rw [if_pos hw] at O2
     have aQ:=dw hw
     rw [GS mH (c:=[])]
     have e2:((jy X.L X.E f' (j2+1)).bind fun b j=>lG X.L X.E f' (acc++b) j).bind q=(jy X.L X.E f' (j2+1)).bind fun b j=>(lG X.L X.E f' (acc++b) j).bind q:=by
      cases jy X.L X.E f' (j2+1) <;> rfl
     rw [e2] at O2
     obtain ⟨c1,c2⟩:=C f' (by omega) _ aQ (by omega)
     refine iB S3 c1 c2 O2 fun ns3 j3 cG hj3 afd S4 O4=>?_
     exact ⟨_,by omega,acc++ns3,j3,f',rfl,rfl,rfl,rfl,hj3,by omega,by omega,by omega,by rw [<- gn]; exact S4,O4⟩
   . simp only [bm]
     rw [if_neg (by rw [hw]; simp)] at O2
     exact ak.mk (h acc j2 bO rV xx S3 O2)
theorem aao {fu:Nat} (B:Below X fu) (hi:i <= X.L.length) (he:40 * (X.L.length - i)+12 <= fu+1):Ct X 269 i (jy X.L X.E (fu+1) i):=by
 intro r U R hr O
 refine Sx ?_
 unfold Sw
 rw [jy] at O
 have hs:=X.small
 have hF:=B.OD (i:=i) (by omega)
 refine Jk hr hi fun b aR hb A1=>?_
 replace O:=O.jb A1
 cases b with
 | true =>
   simp only [bE]
   rw [if_pos hb] at O
   refine gG A1.box hi fun k a7 S=>?_
   refine Ew S hb fun bO S=>dA S O fun bO S O=>?_
   refine Ee (by kernel_rfl) (fun i hi=>Kx hi) (fun i hi=>xm hi) (by omega) (by omega) S O fun ns j cG hj fP S O=>?_
   refine dA S O fun di S O=>?_
   exact mF hF (by omega) S O fun ns j di hj fP S O=>eI S O
 | false =>
   simp only [bm]
   rw [if_neg (by rw [hb]; simp)] at O
   refine Jk A1.box hi fun b2 a7 gg A2=>?_
   replace O:=O.jb A2
   cases b2 with
   | true =>
     simp only [bE]
     rw [if_pos gg] at O
     refine gG A2.box hi fun k a7 S=>?_
     refine Ew S gg fun bO S=>dA S O fun bO S O=>?_
     refine mF hF (by omega) S O fun ns j di hj fP S O=>dA S O fun _ S O=>dA S O fun _ S O=>?_
     refine iB S (Kx S.hi) (xm S.hi) O fun ns j di hj fP S O=>dA S O fun _ S O=>?_
     exact mF hF (by omega) S O fun ns j di hj fP S O=>dA S O fun _ S O=>eI S O
   | false =>
     simp only [bm]
     rw [if_neg (by rw [gg]; simp)] at O
     exact AN (B.term fu (cX _) i hi (by omega)) A2.box O
end
end Go.Rip
namespace Go.Rip
open Go.Proofs Go.RowKit
theorem gO {U:St} {b:Nat} {ks vs:List AV}:(U.set b (.mp ks vs)).mp b=some (ks,vs):=by simp [St.mp,dR]
theorem ve {U:St} {b:Nat} {ks vs:List AV}:(U.new b (.mp ks vs)).mp b=some (ks,vs):=by simp [St.mp,mB]
theorem M6 {U ad:St} {b:Nat} (h:ad.live b=U.live b):ad.mp b=U.mp b:=by simp [St.mp,h]
theorem cW.mp {U ad:St} {b:Nat} {x:List AV × List AV} (h:cW U ad) (k:U.mp b=some x):ad.mp b=some x:=by
 cases e:U.live b with
 | none=>simp [St.mp,e] at k
 | some y=>rw [M6 ((h b y e).trans e.symm)]; exact k
theorem xf {C:cQ} {U:St} {K':AV->St->Prop} {Kp:AV->St->Prop} {m:Nat} {ks vs ks' vs':List AV} {s:aK} {v:AV} {t:TypeId} (h:U.mp m=some (ks,vs)) (hf:lY .s (.str s) ks 0=some none) (hi:gS (.str s) v ks vs=(ks',vs')) :
 (dX (some (.s,t)) (.mp m) (.str s) v U).wp C U K' Kp=K' (.aH []) (U.set m (.mp ks' vs')):=by
 simp only [dX,h,hf,qk,hi]; rfl
def sR:List (aK × Int):=[(lM,32),(dE,28),(gw,30),(jI,31),(fB,29),(dB,27)]
theorem XE (s:aK) {U:St} {m:Nat} (h:U.mp m=some (sR.map fun p=>.str p.1,sR.map fun p=>.int .u8 p.2)):et (some (.s,5)) (some (AV.int .u8 0)) (.mp m) (.str s) true U=.val (.aH [.int .u8 (match sR.find? (fun p=>p.1=s) with | some p=>p.2 | none=>0),.bool (sR.find? (fun p=>p.1=s)).isSome]):=by
 have:=va s (.int .u8 0) (sR.map fun p=>(p.1,AV.int .u8 p.2))
 rw [List.map_map,List.map_map,List.find?_map] at this
 simp only [et,kB,qk,h]
 rw [show (sR.map fun p=>AV.str p.1)=List.map ((fun p:aK × AV=>AV.str p.1) ∘ fun p=>(p.1,AV.int .u8 p.2)) sR from rfl,show (sR.map fun p=>AV.int .u8 p.2)=List.map ((fun p:aK × AV=>p.2) ∘ fun p=>(p.1,AV.int .u8 p.2)) sR from rfl,this]
 have e:((fun p:aK × AV=>decide (p.1=s)) ∘ fun p:aK × Int=>(p.1,AV.int .u8 p.2))=fun p=>decide (p.1=s):=rfl
 rw [e]
 cases sR.find? fun p=>decide (p.1=s) <;> rfl
section
variable {X:Rx} {aq U:St} {r k i:Nat} {kind:Int} {text:aK} {n m at_:Int} {l:List Nd} {R:cR->St->Prop} {K':AV->St->Prop} {Kp:AV->St->Prop} {w:aK}
theorem XF {fu:Nat} (B:Below X fu) (hi:i <= X.L.length) (he:40 * (X.L.length - i)+1 <= fu+1):Ct X 252 i (gI X.L X.E (fu+1) i):=by
 intro r U R hr O
 refine Ss ?_
 unfold Sr
 have hs:=X.small
 rw [kO]
 intro mm sV
 have e1:cW U (U.new mm (.mp [] [])):=(cW.refl U).new sV
 have hn:=sV.1
 rw [show NV.at mm .mp=AV.mp mm from rfl]
 generalize Ub:U.new mm (.mp [] [])=aR at e1 ⊢
 have m1:aR.mp mm=some ([],[]):=by rw [<- Ub]; exact ve
 rw [xf (ks':=[.str dB]) (vs':=[.int .u8 27]) m1 rfl rfl]
 rw [xf (ks':=[.str dE,.str dB]) (vs':=[.int .u8 28,.int .u8 27]) gO rfl rfl]
 rw [xf (ks':=[.str dE,.str fB,.str dB]) (vs':=[.int .u8 28,.int .u8 29,.int .u8 27]) gO rfl rfl]
 rw [xf (ks':=[.str dE,.str gw,.str fB,.str dB]) (vs':=[.int .u8 28,.int .u8 30,.int .u8 29,.int .u8 27]) gO rfl rfl]
 rw [xf (ks':=[.str dE,.str gw,.str jI,.str fB,.str dB]) (vs':=[.int .u8 28,.int .u8 30,.int .u8 31,.int .u8 29,.int .u8 27]) gO rfl rfl]
 rw [xf (ks':=[.str lM,.str dE,.str gw,.str jI,.str fB,.str dB]) (vs':=[.int .u8 32,.int .u8 28,.int .u8 30,.int .u8 31,.int .u8 29,.int .u8 27]) gO rfl rfl]
 have e2:=(((((e1.set (x:=.mp [.str dB] [.int .u8 27]) hn).set (x:=.mp [.str dE,.str dB] [.int .u8 28,.int .u8 27]) hn).set (x:=.mp [.str dE,.str fB,.str dB] [.int .u8 28,.int .u8 29,.int .u8 27]) hn).set (x:=.mp [.str dE,.str gw,.str fB,.str dB] [.int .u8 28,.int .u8 30,.int .u8 29,.int .u8 27]) hn).set (x:=.mp [.str dE,.str gw,.str jI,.str fB,.str dB] [.int .u8 28,.int .u8 30,.int .u8 31,.int .u8 29,.int .u8 27]) hn).set (x:=.mp [.str lM,.str dE,.str gw,.str jI,.str fB,.str dB] [.int .u8 32,.int .u8 28,.int .u8 30,.int .u8 31,.int .u8 29,.int .u8 27]) hn
 generalize Uc:((((((aR.set mm (.mp [.str dB] [.int .u8 27])).set mm _).set mm _).set mm _).set mm _).set mm _)=a7 at e2 ⊢
 have m2:a7.mp mm=some (sR.map fun p=>.str p.1,sR.map fun p=>.int .u8 p.2):=by rw [<- Uc]; exact gO
 have uo:=e2.aX hr
 refine LB uo hi fun bO e3=>?_
 simp only [bB,XE _ (e3.mp m2),al,bu,List.drop,bA]
 have A3:gr r (rd X i) U bO:=.mg hr (e2.trans e3)
 replace O:=O.jb A3
 have hw:∀ w:aK,w ≠ []->bj X.L i w=decide (w=sy X.L[i]?):=fun w h=>by rw [Fv h]; simp [eq_comm]
 rw [gI,hw dB (by decide),hw dE (by decide),hw fB (by decide),hw gw (by decide),hw jI (by decide),hw lM (by decide)] at O
 simp only [dS] at O
 cases KN:sR.find? fun p=>p.1=sy X.L[i]? with
 | some p =>
   simp only [Option.isSome_some,bE]
   have hp:p ∈ sR:=List.mem_of_find?_eq_some KN
   have tA:p.1=sy X.L[i]?:=by simpa using List.find?_some KN
   have cn:p.1 ≠ []:=by
    have:∀ p ∈ sR,p.1 ≠ []:=by decide
    exact this p hp
   have aQ:i < X.L.length:=dw (w:=p.1) (by rw [hw _ cn,tA]; simp)
   refine gG A3.box hi fun k cG S=>?_
   simp only [bS,al,aZ,cU]
   refine SF S aQ fun di S=>?_
   intro j hj
   simp only [br,al,bf,aN,rF,cx]
   rw [<- tA] at O
   simp only [sR,cD,List.not_mem_nil,or_false] at hp
   have t1:(lM=dB)=False:=by simp; decide
   rcases hp with rfl | rfl | rfl | rfl | rfl | rfl
   . simp (decide:=true) only [if_false,if_true] at O
     simp (decide:=true) [bE]
     exact nx S O fun x _ S O=>ny S fun _ S=>hj _ _ (eI S O)
   . simp (decide:=true) only [if_false,if_true] at O
     simp (decide:=true) [bm]
     exact hj _ _ (eI S O)
   . simp (decide:=true) only [if_false,if_true] at O
     simp (decide:=true) [bm]
     exact hj _ _ (eI S O)
   . simp (decide:=true) only [if_false,if_true] at O
     simp (decide:=true) [bE]
     exact nx S O fun x _ S O=>ny S fun _ S=>hj _ _ (eI S O)
   . simp (decide:=true) only [if_false,if_true] at O
     simp (decide:=true) [bm]
     exact hj _ _ (eI S O)
   . simp (decide:=true) only [if_false,if_true] at O
     simp (decide:=true) [bm]
     exact hj _ _ (eI S O)
 | none =>
   simp only [Option.isSome_none,bm]
   have jt:∀ w ∈ sR.map (·.1),¬ w=sy X.L[i]?:=fun w hw e=>by
    rw [List.find?_eq_none] at KN
    obtain ⟨p,hp,rfl⟩:=List.mem_map.1 hw
    simpa [e] using KN p hp
   rw [if_neg (jt _ (by decide)),if_neg (jt _ (by decide)),if_neg (jt _ (by decide)),if_neg (jt _ (by decide)),if_neg (jt _ (by decide)),if_neg (jt _ (by decide))] at O
   refine IB A3.box hi cP (fun hb cG A4=>?_) (fun hb cG e4=>?_)
   . simp only [bB,bE]
     rw [if_pos hb] at O
     have aQ:=dw hb
     replace O:=O.jb A4
     have g2:=(zm (L:=X.L) (E:=X.E) fu).1 (i+1) aQ (by omega)
     refine B.term fu (cX _) (i+1) aQ (by omega) r cG _ A4.box ⟨fun ns j e hj a ad hk A=>?_,fun j e ad A=>O.bad j (by rw [e]; rfl) ad A⟩
     rw [e] at O
     refine Vm A.box hj (Out.jb O A) fun di hj5 A5 O=>?_
     exact ak.mk (O.ok _ _ rfl hj5 a di hk ⟨A5.box,kL.refl _ _⟩)
   . simp only [bB,bm]
     rw [if_neg (by rw [hb]; simp)] at O
     have A4:gr r (rd X i) bO cG:=.mg A3.box e4
     replace O:=O.jb A4
     refine qE A4.box hi 0 (by omega) fun di e5=>?_
     rw [Nat.add_zero]
     have A5:gr r (rd X i) cG di:=.mg A4.box e5
     replace O:=O.jb A5
     obtain ⟨kd,s,a,e,hm⟩:=vq X.L[i]?
     rw [e]
     simp only [bB,Mi,List.drop,bA,br,al,bY]
     have gl:qx X.L i 2=true ↔ kd=2:=by
      refine Iff.trans ?_ (hm 2 (by omega)).symm
      unfold qx
      cases ht:X.L[i]? with
      | none=>simp
      | some t =>
        rw [ht] at e; simp only [rX,qf,List.cons.injEq,AV.str.injEq,true_and] at e
        simp [e.2.1]
     refine ⟨fun h2=>?_,fun h2=>?_⟩
     . rw [if_pos (gl.2 h2)] at O
       refine gG A5.box hi fun k mK S=>?_
       simp only [bS,al,aZ,cU]
       exact pq S O fun x _ S O=>Ad S fun _ S=>eI S O
     . rw [if_neg (fun h=>h2 (gl.1 h))] at O
       refine gG A5.box hi fun k mK S=>?_
       simp only [bS,al,aZ,cU]
       refine nx S O fun x _ S O=>ny S fun _ S=>?_
       intro j hj
       refine rL S (fun hw jo S=>?_) fun hw jo S=>?_
       . simp only [bE]
         rw [if_pos hw] at O
         have hh:=S.hi
         refine AM S fun _ S=>XC B (by omega) S O fun ns j2 vA rV xx S O=>?_
         exact dA S O fun _ S O=>hj _ _ (eI S O)
       . simp only [bm]
         rw [if_neg (by rw [hw]; simp)] at O
         exact hj _ _ (eI S O)
end
end Go.Rip
namespace Go.Rip
open Go.Proofs Go.RowKit
section
variable {X:Rx} {aq U:St} {r k i:Nat} {kind:Int} {text:aK} {n m at_:Int} {l:List Nd} {R:cR->St->Prop} {K':AV->St->Prop} {Kp:AV->St->Prop} {w:aK}
theorem YP {a:AV} {ns:List Nd} (S:Sk X aq r k i kind text n m at_ [] U) (hi:1 <= i) (hk:eA false [a] ns) (h:∀ ad,Sk X aq r k i kind text n m at_ ns ad->K' (.box k 0) ad) :
 (ar (some (87,1)) (some [AV.aY]) 1 false [(0,a)]).wp K U (fun v U=>ae K 103 [.box k 0,v] U (ag K' (aa R))) (aa R) :=
 Jj S (fun ks h1 h2 h3=>⟨ks,h1,h2,by rw [h2.ne_nil rfl rfl]; simpa using hi⟩) hk fun ad S=>h ad (by simpa using S)
theorem TO {U:St} {v:AV} {e sz n:Nat} {l:List AV} (h:Grow U v e sz n l):cw (some false) v=.val (.int .i64 n):=by
 rcases h with ⟨rfl,rfl,rfl⟩ | ⟨τ,rfl,_⟩ <;> rfl
theorem YS {fu:Nat} (B:Below X fu) (hi:i <= X.L.length) (he:40 * (X.L.length - i)+11 <= fu+1):Ct X 109 i (ia X.L X.E (fu+1) i):=by
 intro r U R hr O
 refine QC ?_
 unfold QB
 have hs:=X.small
 rw [ia] at O
 have g:=(zm (L:=X.L) (E:=X.E) fu).2.2.1 i hi (by omega)
 refine B.first fu (cX _) i hi (by omega) r U _ hr ⟨fun ns j e hj a aR hk A1=>?_,fun j e ad A=>O.bad j (by rw [e]; rfl) ad A⟩
 rw [e] at O g
 have fP:i < j:=g.1
 have O1:Out X r aR R (oO X.L X.E fu (de X.L X.E j) ns 1 j):=Out.jb O A1
 clear O e g
 refine gG A1.box hj fun k a7 S=>?_
 refine YP S (by omega) hk fun bO S=>?_
 intro jj Bi
 have fin:∀ (acc:List Nd) (many q:Nat) (ad:St),Sk X aR r k q 9 [] 0 0 (de X.L X.E j) acc ad->(∃ ks,eA true ks acc/\ks.length=many)->(many=1->acc=ns)->Out X r aR R (.ok (if many=1 then acc else node 9 [] 0 0 (de X.L X.E j) acc) q)->jj a (.box k 0) ad:=by
  intro acc many q ad S ⟨ks0,KT,qO⟩ h1 O
  refine Bi _ _ _ ?_
  have hq':=S.hi
  have hA':=S.A
  obtain ⟨ks,M,KV,hle⟩:=S.M
  have hl:ks.length=many:=(KV.count KT).trans qO
  obtain ⟨kv,b1,b2,b3,b4⟩:=M.box
  simp only [bS,al,aZ,cU,gz b1,mf,List.drop,bA,TO b2,br,bY,hl]
  refine ⟨fun h=>?_,fun h=>?_⟩
  . have h:many=1:=by omega
    rw [if_pos h] at O
    have:=h1 h
    subst this
    exact ak.mk (O.ok _ _ rfl hq' a ad hk hA')
  . rw [if_neg (by omega)] at O
    exact eI S O
 refine ⟨fun mm v0 v3 v4 ad=>∃ acc many q f',mm=X.L.length - q/\v0=.box r 0/\v3=a/\v4=.box k 0/\i < q/\40 * (X.L.length - q)+1 <= f'/\f' <= fu/\Sk X aR r k q 9 [] 0 0 (de X.L X.E j) acc ad/\(∃ ks,eA true ks acc/\ks.length=many)/\(many=1->acc=ns)/\1 <= many/\Out X r aR R (oO X.L X.E f' (de X.L X.E j) acc many q),
  ⟨_,ns,1,j,fu,rfl,rfl,rfl,rfl,fP,by omega,cX _,S,⟨[a],hk.one,rfl⟩,fun _=>rfl,cX _,O1⟩,?_⟩
 clear O1 S fP
 rintro mm v0 v3 v4 cG ⟨acc,many,q,f',rfl,rfl,rfl,rfl,hiq,VW,HL,S,iC,KX,V7,O⟩
 cases f' with
 | zero=>omega
 | succ f' =>
   rw [oO] at O
   have hq:=S.hi
   refine SG S fun b di hb S=>?_
   cases b with
   | false =>
     simp only [bm]
     rw [if_neg (by rw [hb]; simp)] at O
     exact fin acc many q di S iC KX O
   | true =>
     simp only [bE]
     have aQ:=dw hb
     refine qE S.A.box hq 1 (by omega) fun mK e6=>?_
     obtain ⟨kd,s,at',e,hm⟩:=vq X.L[q+1]?
     have D5:kd=0 ↔ X.L.length <= q+1:=by
      cases ht:X.L[q+1]? with
      | none =>
        rw [ht] at e; simp only [rX,List.cons.injEq,AV.int.injEq,true_and] at e
        rw [List.getElem?_eq_none_iff] at ht
        exact ⟨fun _=>ht,fun _=>e.1.symm⟩
      | some t =>
        rw [ht] at e; simp only [rX,qf,List.cons.injEq,AV.int.injEq,true_and] at e
        have:=(dx.1 ht).1
        have hk:=(X.ok t (gh ht)).cases
        constructor
        . intro h; omega
        . intro h; omega
     have hbg:=JH X.L[q+1]?
     rw [Yn] at hbg
     rw [e] at hbg ⊢
     simp only [bB,kO]
     intro b2 gg
     have e7:=e6.new (x:=.box [AV.int .u8 0,AV.str [],AV.int .i64 0]) gg
     rw [show NV.at b2 .box=AV.box b2 0 from rfl,cI aG]
     refine ⟨⟨rfl,rfl,by simp⟩,?_⟩
     have e8:=e7.set (x:=.box (ay [AV.int .u8 0,AV.str [],AV.int .i64 0] 0 (au (.agg [.int .u8 kd,.str s,.int .i64 at'])))) (e6.fresh gg.1)
     generalize p6:(mK.new b2 (.box [AV.int .u8 0,AV.str [],AV.int .i64 0])).set b2 (.box (ay [AV.int .u8 0,AV.str [],AV.int .i64 0] 0 (au (.agg [.int .u8 kd,.str s,.int .i64 at']))))=vA at e8 ⊢
     have rn:vA.box b2=some [.int .u8 kd,.str s,.int .i64 at']:=by rw [<- p6,aV]; rfl
     replace S:=S.jb (.mg S.A.box e8) hq (cX _)
     simp only [aZ,al,gz rn,List.drop,bA,cU,br,bf,aN]
     have stop:¬ (q+1 < X.L.length/\tj X.L (q+1)=false)->jj v3 (.box k 0) vA:=fun hn=>by
      rw [if_neg (fun h=>hn h.2)] at O
      exact fin acc many q vA S iC KX O
     by_cases h0:kd=0
     . simp only [h0,du,show (true == false)=false from rfl,cF,aM,if_true,al,bE]
       exact stop (fun h=>by have:=D5.1 h0; omega)
     . simp only [h0,eB,gR,cx,yb rn,zX,mj,aM,bU,if_false,al]
       refine ⟨by simp,_,hbg,?_⟩
       cases hit:tj X.L (q+1) with
       | true=>simp only [bE]; exact stop (fun h=>by rw [hit] at h; cases h.2)
       | false =>
         simp only [bm]
         have HS:q+1 < X.L.length:=by
          rcases jL (q+1) X.L.length with h | h
          . exact h
          . exact absurd (D5.2 h) h0
         rw [if_pos ⟨hb,HS,hit⟩] at O
         refine Ew S hb fun tb S=>?_
         have hF:je X f' q:=fun j hj hqj=>⟨B.first f' (by omega) j hj (by omega),(zm f').2.2.1 j hj (by omega)⟩
         have aaX:∀ Df a2,eA false [a2] Df->∃ ks,eA true ks (acc++Df)/\ks.length=many+1:=fun Df a2 h=>by
          obtain ⟨ks,h1,h2⟩:=iC
          exact ⟨ks++[a2],h1.snoc h,by simp [h2]⟩
         obtain ⟨g1,g2⟩:=hF (q+1) aQ (by omega)
         refine g1 r tb _ S.A.box ⟨fun Df j2 e rV a2 yA gl A2=>?_,fun j e ad A=>O.bad j (by rw [e]; rfl) ad (S.A.trans A)⟩
         rw [e] at g2 O
         have hqj:q+1 < j2:=g2.1
         obtain ⟨ks,M1,M2,M3⟩:=S.M
         have S2:=S.jb A2 rV (by omega)
         refine Jj S2 (fun _ _ _ _=>⟨ks,M1.jb A2 S.A.box,M2,by omega⟩) gl fun agu S3=>?_
         refine ⟨_,?_,acc++Df,many+1,j2,f',rfl,rfl,rfl,rfl,by omega,by omega,by omega,S3,aaX Df a2 gl,fun h=>by omega,by omega,O⟩
         omega
end
theorem below:∀ (X:Rx) (fu:Nat),Below X fu:=fun X fu=>by
 induction fu with
 | zero=>constructor <;> intros <;> omega
 | succ fu B =>
   have st:∀ {f':Nat},f' <= fu+1->f' <= fu\/f'=fu+1:=fun h=>by omega
   refine ⟨fun f' hf j hj he=>?_,fun f' hf j hj he=>?_,fun f' hf j lev hj h2 h9 he=>?_,fun f' hf j hj he=>?_,fun f' hf j hj he=>?_⟩
   . rcases st hf with h | rfl
     . exact B.term f' h j hj he
     . exact YS B hj he
   . rcases st hf with h | rfl
     . exact B.first f' h j hj he
     . exact TD hj (B.OD (by omega)) (B.oper fu (cX _) j 2 hj (by omega) (by omega) (by omega))
   . rcases st hf with h | rfl
     . exact B.oper f' h j lev hj h2 h9 he
     . exact YA hj h2 h9 he (fun h=>B.atom fu (cX _) j hj (by omega)) B.ops
   . rcases st hf with h | rfl
     . exact B.atom f' h j hj he
     . exact XF B hj he
   . rcases st hf with h | rfl
     . exact B.arg f' h j hj he
     . exact aao B hj he
theorem Ui (X:Rx) {i:Nat} (hi:i <= X.L.length):Ct X 55 i (mL X.L X.E (fuel X.L) i):=by
 have hf:40 * (X.L.length+2)=fuel X.L:=rfl
 exact X5 hi (by omega) fun j hj fP=>⟨(below X _).term _ (cX _) j hj (by omega),(zm _).1 j hj (by omega)⟩
end Go.Rip
