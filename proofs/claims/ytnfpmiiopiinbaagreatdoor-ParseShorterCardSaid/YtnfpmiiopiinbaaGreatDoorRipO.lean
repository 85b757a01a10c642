/- Lemmas for the proof: no conditions. -/
import Derived.Test.YtnfpmiiopiinbaaGreatDoorRipZz
import Derived.Test.YtnfpmiiopiinbaaGreatDoorRipN
set_option linter.unusedVariables false
set_option linter.unusedSimpArgs false
set_option linter.loopingSimpArgs false
namespace Go.Rip
open Go.Proofs Go.RowKit
section
variable {X:Rx} {i:Nat}
theorem JK {U:St} {r:Nat} {w:aG} {K':AV->St->Prop} {Kp:AV->St->Prop} (hr:U.box r=some (rd X i)) (hi:i <= X.L.length) (h:∀ b ad,bf X.L i w=b->gT r (rd X i) U ad->K' (.bool b) ad) :
 (ar (some (9,1)) (some [AV.str []]) 1 false [(0,.str w)]).wp K U (fun v U=>ae K 105 [.box r 0,v] U (ag K' Kp)) Kp:=by
 rw [gG]
 refine ⟨by omega,?_⟩
 rw [eJ (o:=0) (s:=1) rfl]
 refine ⟨⟨rfl,rfl,by simp [bO]⟩,?_⟩
 rw [ik]
 refine ⟨rfl,?_⟩
 refine Nw (l:=[w]) hr hi (by simp) fun aR e1=>?_
 exact h _ _ (by rw [AO]) (.mW hr e1)
theorem AU {U:St} {r:Nat} {R:cY->St->Prop} {f:FuncId} {p:PR (List Nd)} (C:Ct X f i p) (hr:U.box r=some (rd X i)) (O:Out X r U R p):ae K f [.box r 0] U (ag (fun v U=>al R v U) (aa R)) :=
 C r U _ hr ⟨fun ns j e hj a ad hk A=>al.mk (O.ok ns j e hj a ad hk A),O.bad⟩
theorem Aw (hi:i <= X.L.length):Ct X 108 i (fM X.L X.E i):=by
 intro r U R hr O
 refine Q9 ?_
 unfold Q8
 refine gP hr hi fun k aR S=>?_
 simp only [bN,aj,aZ,df]
 intro j hj
 unfold fM at O
 refine rJ S (fun h1 bh S=>?_) fun h1 bh S=>?_
 . rw [if_pos h1] at O
   simp only [bG]
   exact Ag S fun bW S=>hj _ _ (eK S O)
 rw [if_neg (by rw [h1]; simp)] at O
 simp only [bp]
 refine rJ S (fun h2 bh S=>?_) fun h2 bh S=>?_
 . rw [if_pos h2] at O
   simp only [bG]
   exact Ag S fun bW S=>hj _ _ (eK S O)
 rw [if_neg (by rw [h2]; simp)] at O
 simp only [bp]
 refine rJ S (fun h3 bh S=>?_) fun h3 bh S=>?_
 . rw [if_pos h3] at O
   simp only [bG]
   exact pv S O fun x bW S O=>AT S fun cN S=>Ag S fun dv S=>hj _ _ (eK S O)
 rw [if_neg (by rw [h3]; simp)] at O
 simp only [bp]
 exact dx S O fun bW S O=>pv S O fun x bW S O=>Ag S fun dv S=>hj _ _ (eK S O)
theorem K3 (hi:i <= X.L.length):Ct X 278 i (kW X.L X.E i):=by
 intro r U R hr O
 refine Tc ?_
 unfold Tb
 refine gP hr hi fun k aR S=>?_
 simp only [bN,aj,aZ,df]
 exact nJ S O fun x bW S O=>nK S fun dv S=>eK S O
theorem LO {f:Nat} (hi:i <= X.L.length) (hf:X.L.length < f):Ct X 104 i (jh X.L X.E f i):=by
 intro r U R hr O
 refine Q4 ?_
 unfold Q3
 refine JK hr hi fun b aR hb A1=>?_
 replace O:=O.jo A1
 simp only [eI,aj]
 unfold jh at O
 cases b with
 | false =>
   simp only [fD,bG]
   rw [if_neg (by rw [hb]; simp)] at O
   exact AU (Aw hi) A1.box O
 | true =>
   simp only [du,bp]
   rw [if_pos hb] at O
   refine gP A1.box hi fun k bh S=>?_
   have O':Out X r aR R ((bI X.L cB i).bind fun _ j=>(ju X.L (fM X.L X.E) f j).bind fun a j=>(bI X.L cg j).bind fun _ j=>(bI X.L fF j).bind fun _ j=>(fM X.L X.E j).bind fun b j=>.ok (node 8 [] 0 0 (dc X.L X.E i) (a++b)) j):=by
    rw [show bI X.L cB i=.ok () (i+1) by simp [bI,hb]]; exact O
   refine dx S O' fun bW S O=>?_
   refine Ew (by kernel_rfl) (fun i hi=>Aw hi) (fun i hi=>qw hi) (by omega) (by omega) S O fun ns j cN hj fR S O=>?_
   refine dx S O fun dv S O=>dx S O fun nQ S O=>?_
   exact iD S (Aw S.hi) (qw S.hi) O fun Dq j2 jy qN xL S O=>eK S O
theorem U8 {f:Nat} (hi:i <= X.L.length) (hf:X.L.length < f):Ct X 107 i (jx X.L X.E f i):=by
 intro r U R hr O
 refine Q7 ?_
 unfold Q6
 refine gP hr hi fun k aR S=>?_
 simp only [bN,aj,aZ,df]
 refine nJ S O fun x bh S O=>nK S fun bW S=>dx S O fun cN S O=>?_
 exact iD S (LO S.hi hf) (x5 S.hi hf) O fun ns j dv hj fR S O=>eK S O
theorem Yp {f:Nat} (hi:i <= X.L.length) (hf:X.L.length < f) (hg:∀ j,j <= X.L.length->i < j->Ct X 109 j (gJ X.L X.E f j)/\Gd X.L.length (j+1) j (gJ X.L X.E f j)):Ct X 55 i (lU X.L X.E f i):=by
 intro r U R hr O
 refine Vq ?_
 unfold Xo
 unfold lU at O
 refine gP hr hi fun k aR S=>?_
 simp only [bN,aj,aZ,df]
 refine rJ S (fun h1 bh S=>?_) fun h1 bh S=>?_
 . rw [if_pos h1] at O
   simp only [bG]
   refine nJ S O fun x bh S O=>nK S fun bW S=>dx S O fun cN S O=>?_
   refine iD S (LO S.hi hf) (x5 S.hi hf) O fun ns j dv hj fR S O=>?_
   exact dx S O fun nQ S O=>eK S O
 rw [if_neg (by rw [h1]; simp)] at O
 simp only [bp]
 refine AT S fun bW S=>?_
 intro j hj
 have rest:∀ (kk:Int) (p:Nat) (ad:St),i < p->Sk X U r k p kk [] 0 0 (dc X.L X.E i) [] ad->Out X r U R ((gx X.L p).bind fun x j=>(bI X.L cB j).bind fun _ j =>
  (if bf X.L j cg=true then .ok [] j else ju X.L (jx X.L X.E f) f j).bind fun a j =>
  (bI X.L cg j).bind fun _ j=>(bI X.L cW j).bind fun _ j=>(fM X.L X.E j).bind fun b j=>(bI X.L gk j).bind fun _ j=>(gJ X.L X.E f j).bind fun c j =>
  (bI X.L cn j).bind fun _ j=>.ok (node kk x 0 0 (dc X.L X.E i) (a++b++c)) j)->j (.box r 0) (.box k 0) ad:=by
  intro kk p ad hp S O
  refine hj _ _ _ ?_
  refine nJ S O fun x bh S O=>?_
  simp only [bN,aj,aZ,df]
  refine nK S fun bW S=>dx S O fun cN S O=>?_
  intro j1 ur
  have Xe:∀ (ns:List Nd) (q:Nat) (ad:St),i < q->Sk X U r k q kk x 0 0 (dc X.L X.E i) ns ad->Out X r U R ((bI X.L cg q).bind fun _ j=>(bI X.L cW j).bind fun _ j=>(fM X.L X.E j).bind fun b j=>(bI X.L gk j).bind fun _ j=>(gJ X.L X.E f j).bind fun c j =>
   (bI X.L cn j).bind fun _ j=>.ok (node kk x 0 0 (dc X.L X.E i) (ns++b++c)) j)->j1 (.box r 0) (.box k 0) ad:=by
   intro ns q ad hq S O
   refine ur _ _ _ ?_
   refine dx S O fun cN S O=>dx S O fun cN S O=>?_
   refine iD S (Aw S.hi) (qw S.hi) O fun Dq j2 jy qN xL S O=>?_
   refine dx S O fun cN S O=>?_
   obtain ⟨g1,g2⟩:=hg _ S.hi (by omega)
   exact iD S g1 g2 O fun Dq j2 jy qN xL S O=>dx S O fun cN S O=>eK S O
  refine Tj S fun b dv hb S=>?_
  simp only [eI,aj]
  cases b with
  | false =>
    simp only [fD,bG]
    rw [if_neg (by rw [hb]; simp)] at O
    have p7:=X.small
    refine Ew (by kernel_rfl) (fun i hi=>U8 hi hf) (fun i hi=>Gf hi hf) (by omega) (by omega) S O fun ns j cN hj fR S O=>?_
    exact Xe _ _ _ (by omega) S O
  | true =>
    simp only [du,bp]
    rw [if_pos hb] at O
    exact Xe _ _ _ (by omega) S O
 refine rJ S (fun h2 cN S=>?_) fun h2 cN S=>?_
 . rw [if_pos h2] at O
   simp only [bG]
   exact AT S fun dv S=>rest _ _ _ (by omega) S O
 . rw [if_neg (by rw [h2]; simp)] at O
   simp only [bp]
   have e:∀ (p:PR Unit) (q:Int->Nat->PR (List Nd)),(p.bind fun _ j=>PR.ok (4:Int) j).bind q=p.bind fun _ j=>q 4 j:=fun p q=>by cases p <;> rfl
   rw [e] at O
   exact dx S O fun dv S O=>rest _ _ _ (by omega) S O
end
end Go.Rip
namespace Go.Rip
open Go.Proofs Go.RowKit
theorem Nv {c:mg} (o:Option Tk) (l:List aG) (hn:l.length <= 100000) (hc:closed (.vec l.length c (l.map .str))=true):Pure K 121 [.agg (rV o),.vec l.length c (l.map .str)] (.bool (vY o l)):=by
 refine Pure.of ?_ rfl (fun U=>rfl) fun R hR=>B7 o l hn fun ad _=>hR ad
 have:closed (.agg (rV o))=true:=by cases o <;> rfl
 simp only [cT,this,hc,Bool.and_self]
section
variable {X:Rx} {au U:St} {r k i:Nat} {kind:Int} {text:aG} {n m at_:Int} {l:List Nd} {R:cY->St->Prop} {K':AV->St->Prop} {Kp:AV->St->Prop} {w:aG} {f:FuncId}
def jn (X:Rx) (f i:Nat):Prop:=∀ j,j <= X.L.length->i < j->Ct X 169 j (bw X.L X.E f j)/\Gd X.L.length (j+1) j (bw X.L X.E f j)
def D4 (X:Rx) (f:Nat) (fin:List Nd->Nat->PR (List Nd)):List aG->List Nd->Nat->PR (List Nd)
 | [],acc,i=>fin acc i
 | w::ws,acc,i=>(bI X.L w i).bind fun _ j=>(bw X.L X.E f j).bind fun a j=>D4 X f fin ws (acc++a) j
theorem JM {fu i0:Nat} (hF:jn X fu i0) {fin:List Nd->Nat->PR (List Nd)} (ws:List aG) (hw:ws.length <= 10) (zw:i0 <= i) (S:Sk X au r k i kind text n m at_ l U) {ac:List Nd} (hac:ac=l) (O:Out X r au R (D4 X fu fin ws ac i))
 (h:∀ acc j ad,Sk X au r k j kind text n m at_ acc ad->Out X r au R (fin acc j)->al R (.box k 0) ad) :
 fy 5 [.box r 0,.box k 0,.vec ws.length .full (ws.map .str),.int .i64 ws.length,.int .i64 0] U fun lp v0 v3 py ma v10 U =>
 (aw .lss (BT.mk false false false none false) false v10 ma).wp K U (fun v11 U =>
 av v11 (
  (aO (some (9,1)) none py v10).wp K U (fun v12 U =>
  (ak (some (false,1)) v12 U).wp K U (fun cz U =>
  ae K 102 [v0,cz] U (ag (fun cU U =>
  ae K 169 [v0] U (ag (fun de U =>
  (ar (some (87,1)) (some [AV.aW]) 1 false [(0,de)]).wp K U (fun v20 U =>
  ae K 103 [v3,v20] U (ag (fun v21 U =>
  (aw .add (BT.mk false false false none false) true v10 (AV.int .i64 1)).wp K U (fun eo U =>
  lp v0 v3 py ma eo U) (aa R)) (aa R))) (aa R)) (aa R))) (aa R))) (aa R)) (aa R)) (
  al R v3 U)) (aa R):=by
 subst hac
 refine ⟨fun mm v0 v3 v8 v9 v10 ad=>∃ t acc j,t <= ws.length/\mm=ws.length - t/\v0=.box r 0/\v3=.box k 0/\v8=.vec ws.length .full (ws.map .str)/\v9=.int .i64 ws.length/\v10=.int .i64 (t:Nat)/\i0 <= j/\Sk X au r k j kind text n m at_ acc ad/\Out X r au R (D4 X fu fin (ws.drop t) acc j),
  ⟨_,0,_,_,by omega,rfl,rfl,rfl,rfl,rfl,rfl,zw,S,O⟩,?_⟩
 rintro mm v0 v3 v8 v9 v10 aR ⟨t,acc,j,ht,rfl,rfl,rfl,rfl,rfl,rfl,fR,S,O⟩
 simp only [cq,aj,ca]
 refine ⟨fun aQ=>?_,fun lI=>?_⟩
 . have aQ:t < ws.length:=by omega
   have hd:(ws.map AV.str).drop (t * 1)=.str ws[t]::(ws.map AV.str).drop (t+1):=by
    rw [Nat.mul_one,ib (by simpa using aQ)]; simp
   have rp:ws.drop t=ws[t]::ws.drop (t+1):=ib aQ
   rw [rp] at O
   simp only [Cz,jH,hd,oH,bC]
   refine ⟨by omega,?_⟩
   unfold D4 at O
   refine dx S O fun bh S O=>?_
   obtain ⟨g1,g2⟩:=hF _ S.hi (by omega)
   refine iD S g1 g2 O fun ns j2 bW qN xL S O=>?_
   simp only [dO]
   refine ⟨bK (by omega) (by omega),ws.length - (t+1),by omega,t+1,_,_,aQ,rfl,rfl,rfl,rfl,rfl,rfl,by omega,S,O⟩
 . have:t=ws.length:=by omega
   subst this
   rw [List.drop_length] at O
   exact h _ _ _ S O
theorem OU {fu:Nat} (hi:i <= X.L.length) (hF:jn X fu i):Ct X 158 i ((bI X.L ox i).bind fun _ j=>(bw X.L X.E fu j).bind fun c j=>(bI X.L nP j).bind fun _ j=>(bw X.L X.E fu j).bind fun a j=>(bI X.L eG j).bind fun _ j=>(bw X.L X.E fu j).bind fun b j=>.ok (node 10 [] 0 0 (dc X.L X.E i) (c++a++b)) j):=by
 intro r U R hr O
 refine RS ?_
 unfold RR
 refine gP hr hi fun k aR S=>?_
 rw [gG]
 refine ⟨by omega,?_⟩
 rw [eJ (o:=0) (s:=1) rfl]
 refine ⟨⟨rfl,rfl,by simp [bO]⟩,?_⟩
 rw [eJ (o:=1) (s:=1) rfl]
 refine ⟨⟨rfl,rfl,by simp [bO,aA]⟩,?_⟩
 rw [eJ (o:=2) (s:=1) rfl]
 refine ⟨⟨rfl,rfl,by simp [bO,aA]⟩,?_⟩
 rw [ik]
 refine ⟨rfl,?_⟩
 simp only [ua,aj]
 exact JM (fin:=fun acc j=>.ok (node 10 [] 0 0 (dc X.L X.E i) acc) j) hF [ox,nP,eG] (by simp) (bT _) S rfl O fun acc j ad S O=>eK S O
theorem Yz {fu:Nat} (hi:i <= X.L.length) (hF:jn X fu i):Ct X 159 i ((bI X.L fX i).bind fun _ j=>(bw X.L X.E fu j).bind fun a j=>(bI X.L rP j).bind fun _ j=>(bw X.L X.E fu j).bind fun b j=>.ok (node 11 [] 0 0 (dc X.L X.E i) (a++b)) j):=by
 intro r U R hr O
 refine RU ?_
 unfold RT
 refine gP hr hi fun k aR S=>?_
 rw [gG]
 refine ⟨by omega,?_⟩
 rw [eJ (o:=0) (s:=1) rfl]
 refine ⟨⟨rfl,rfl,by simp [bO]⟩,?_⟩
 rw [eJ (o:=1) (s:=1) rfl]
 refine ⟨⟨rfl,rfl,by simp [bO,aA]⟩,?_⟩
 rw [ik]
 refine ⟨rfl,?_⟩
 simp only [ua,aj]
 exact JM (fin:=fun acc j=>.ok (node 11 [] 0 0 (dc X.L X.E i) acc) j) hF [fX,rP] (by simp) (bT _) S rfl O fun acc j ad S O=>eK S O
theorem mS {fu i0:Nat} {q:List Nd->Nat->PR (List Nd)} (hF:jn X fu i0) (h0:i0 < i) (S:Sk X au r k i kind text n m at_ l U) (O:Out X r au R ((bw X.L X.E fu i).bind q))
 (h:∀ ns j ad,j <= X.L.length->i < j->Sk X au r k j kind text n m at_ (l++ns) ad->Out X r au R (q ns j)->K' (.box k 0) ad) :
 ae K 169 [.box r 0] U (ag (fun v U=>(ar (some (87,1)) (some [AV.aW]) 1 false [(0,v)]).wp K U (fun v U=>ae K 103 [.box k 0,v] U (ag K' (aa R))) (aa R)) (aa R)) :=
 iD S (hF _ S.hi h0).1 (hF _ S.hi h0).2 O h
theorem X6 {fu:Nat} (hi:i <= X.L.length) (hF:jn X fu i):Ct X 160 i ((bI X.L lh i).bind fun _ j=>(gx X.L j).bind fun x j=>(bI X.L cW j).bind fun _ j=>(iC X.L j).bind fun n j=>(bI X.L bL j).bind fun _ j=>(iC X.L j).bind fun m j=>(bI X.L jJ j).bind fun _ j=>(bw X.L X.E fu j).bind fun a j=>.ok (node 12 x n m (dc X.L X.E i) a) j):=by
 intro r U R hr O
 refine RW ?_
 unfold RV
 refine gP hr hi fun k aR S=>?_
 simp only [bN,aj,aZ,df]
 refine dx S O fun _ S O=>nJ S O fun x _ S O=>nK S fun _ S=>dx S O fun _ S O=>pv S O fun _ _ S O=>Ag S fun _ S=>dx S O fun _ S O=>pv S O fun _ _ S O=>agc S fun _ S=>dx S O fun _ S O=>?_
 exact mS hF (by omega) S O fun ns j dv hj fR S O=>eK S O
theorem UR {fu:Nat} (hi:i <= X.L.length) (hF:jn X fu i):Ct X 161 i ((bI X.L il i).bind fun _ j=>(gx X.L j).bind fun x j=>(bI X.L jJ j).bind fun _ j=>(bw X.L X.E fu j).bind fun a j=>(bI X.L eG j).bind fun _ j=>(bw X.L X.E fu j).bind fun b j=>.ok (node 13 x 0 0 (dc X.L X.E i) (a++b)) j):=by
 intro r U R hr O
 refine RY ?_
 unfold RX
 refine gP hr hi fun k aR S=>?_
 simp only [bN,aj,aZ,df]
 refine dx S O fun _ S O=>nJ S O fun x _ S O=>nK S fun _ S=>dx S O fun _ S O=>?_
 refine mS hF (by omega) S O fun ns j dv hj fR S O=>dx S O fun _ S O=>?_
 exact mS hF (by omega) S O fun ns j dv hj fR S O=>eK S O
theorem OV {fu:Nat} (hi:i <= X.L.length) (hF:jn X fu i):Ct X 162 i ((bI X.L gH i).bind fun _ j=>(bw X.L X.E fu j).bind fun a j=>(bI X.L eG j).bind fun _ j=>(bw X.L X.E fu j).bind fun b j=>.ok (node 15 [] 0 0 (dc X.L X.E i) (a++b)) j):=by
 intro r U R hr O
 refine R0 ?_
 unfold RZ
 refine gP hr hi fun k aR S=>?_
 refine dx S O fun _ S O=>?_
 refine mS hF (by omega) S O fun ns j dv hj fR S O=>dx S O fun _ S O=>?_
 exact mS hF (by omega) S O fun ns j dv hj fR S O=>eK S O
theorem Qs {fu:Nat} (hi:i <= X.L.length) (hF:jn X fu i):Ct X 163 i ((bI X.L ig i).bind fun _ j=>(gx X.L j).bind fun x j=>(bI X.L bL j).bind fun _ j=>(iC X.L j).bind fun n j=>(bI X.L jJ j).bind fun _ j=>(bw X.L X.E fu j).bind fun a j=>.ok (node 14 x n 0 (dc X.L X.E i) a) j):=by
 intro r U R hr O
 refine R2 ?_
 unfold R1
 refine gP hr hi fun k aR S=>?_
 simp only [bN,aj,aZ,df]
 refine dx S O fun _ S O=>nJ S O fun x _ S O=>nK S fun _ S=>dx S O fun _ S O=>pv S O fun _ _ S O=>Ag S fun _ S=>dx S O fun _ S O=>?_
 exact mS hF (by omega) S O fun ns j dv hj fR S O=>eK S O
end
end Go.Rip
namespace Go.Rip
open Go.Proofs Go.RowKit
def kY:List (aG × Nat):=[(gH,162),(ox,158),(il,161),(lh,160),(ig,163),(fX,159)]
theorem MW:se=.ga (kY.map fun p=>.str p.1) (kY.map fun p=>.func (.func p.2) [] []):=rfl
theorem vo (s:aG) (z:AV):∀ l:List (aG × AV),oe .s (.str s) z true (l.map fun p=>.str p.1) (l.map fun p=>p.2)=.val (.aH [match l.find? (fun p=>p.1=s) with | some p=>p.2 | none=>z,.bool (l.find? (fun p=>p.1=s)).isSome])
 | []=>rfl
 | p::l=>by
   simp only [eh,oe,iy,List.find?_cons]
   by_cases h:s=p.1
   . subst h; simp
   . have h':¬ p.1=s:=fun e=>h e.symm
     simp only [h',eX]
     rw [show (s == p.1)=false by simp [h]]
     simpa using vo s z l
theorem MV (s:aG) (U:St):eB (some (.s,186)) (some AV.dV) se (.str s) true U=.val (.aH [match kY.find? (fun p=>p.1=s) with | some p=>.func (.func p.2) [] [] | none=>.dV,.bool (kY.find? (fun p=>p.1=s)).isSome]):=by
 rw [MW]
 have:=vo s .dV (kY.map fun p=>(p.1,AV.func (.func p.2) [] []))
 simp only [eB,kH,ql]
 rw [List.map_map,List.map_map] at this
 rw [show (kY.map fun p=>AV.str p.1)=List.map ((fun p:aG × AV=>AV.str p.1) ∘ fun p=>(p.1,AV.func (.func p.2) [] [])) kY from rfl,show (kY.map fun p=>AV.func (.func p.2) [] [])=List.map ((fun p:aG × AV=>p.2) ∘ fun p=>(p.1,AV.func (.func p.2) [] [])) kY from rfl,this]
 congr 2
 rw [List.find?_map]
 have e:((fun p:aG × AV=>decide (p.1=s)) ∘ fun p:aG × Nat=>(p.1,AV.func (.func p.2) [] []))=fun p=>decide (p.1=s):=rfl
 rw [e]
 cases kY.find? fun p=>decide (p.1=s) <;> rfl
theorem J5 (o:Option Tk):Pure K 61 [.agg (rV o)] (.bool (vY o [dI,fH,dz])):=by
 refine Pure.of ?_ rfl (fun U=>rfl) fun R hR=>?_
 . cases o <;> rfl
 refine Vs ?_
 have ht:(rV o).length=3:=by cases o <;> rfl
 unfold Xq
 rw [hU rfl]
 intro b hb
 rw [show ax (.agg (rV o))=rV o from rfl,pc aK]
 refine ⟨by simp [ht],?_⟩
 rw [gG]
 refine ⟨by omega,?_⟩
 rw [eJ (o:=0) (s:=1) rfl]
 refine ⟨⟨rfl,rfl,by simp [bO]⟩,?_⟩
 rw [eJ (o:=1) (s:=1) rfl]
 refine ⟨⟨rfl,rfl,by simp [bO,aA]⟩,?_⟩
 rw [eJ (o:=2) (s:=1) rfl]
 refine ⟨⟨rfl,rfl,by simp [bO,aA]⟩,?_⟩
 rw [ik]
 refine ⟨rfl,?_⟩
 rw [eD,qD (by omega)]
 exact B7 (c:=.full) o [dI,fH,dz] (by simp) fun ad _=>al.mk (hR ad)
theorem YH (L:List Tk) (i:Nat):vY L[i]? [dI,fH,dz]=tn L i:=by
 unfold vY tn bf
 cases h:L[i]? with
 | none=>rfl
 | some t =>
   simp only [h]
   cases hk:(t.k == 3 || t.k == 4) with
   | false=>simp
   | true =>
     simp only [Bool.true_and]
     rw [pW]
     simp [or_assoc]
section
variable {X:Rx} {au U:St} {r k i:Nat} {R:cY->St->Prop} {K':AV->St->Prop} {Kp:AV->St->Prop} {f:FuncId}
theorem acM {kP:FuncId} (he:fw K.P kP=true) {c:List AV}:(jk K.P (.func (.func kP) [] []) [.box r 0]).wp K U K' Kp=ae K kP [.box r 0] U (ag K' Kp):=by
 simp [jk,he]
def Co (X:Rx) (i lev:Nat) (p:PR (List Nd)):Prop:=∀ (r:Nat) (U:St) (R:cY->St->Prop),U.box r=some (rd X i)->Out X r U R p->ae K 219 [.box r 0,.int .i64 (lev:Nat)] U R
theorem Ye {s:aG} {p:aG × Nat} (h:kY.find? (fun p=>p.1=s)=some p):p ∈ kY/\p.1=s:=⟨List.mem_of_find?_eq_some h,by simpa using List.find?_some h⟩
theorem Ug {fu:Nat} (hi:i <= X.L.length) (hF:jn X fu i) (hO:Co X i 2 (dX X.L X.E fu 2 i)):Ct X 169 i (bw X.L X.E (fu+1) i):=by
 intro r U R hr O
 refine Sb ?_
 unfold Sa
 refine qE hr hi 0 (by omega) fun aR e1=>?_
 rw [Nat.add_zero]
 obtain ⟨kd,s,a,e,hm⟩:=vG X.L[i]?
 rw [e]
 simp only [bE,kV]
 intro b hb
 have Iz:=e1.bg hr
 have e2:=e1.new (x:=.box [AV.int .u8 0,AV.str [],AV.int .i64 0]) hb
 rw [show NV.at b .box=AV.box b 0 from rfl,dk aK]
 refine ⟨⟨rfl,rfl,by simp⟩,?_⟩
 have e3:=e2.set (x:=.box (aA [AV.int .u8 0,AV.str [],AV.int .i64 0] 0 (ax (.agg [.int .u8 kd,.str s,.int .i64 a])))) (e1.fresh hb.1)
 generalize p8:(aR.new b (.box [AV.int .u8 0,AV.str [],AV.int .i64 0])).set b (.box (aA [AV.int .u8 0,AV.str [],AV.int .i64 0] 0 (ax (.agg [.int .u8 kd,.str s,.int .i64 a]))))=bW at e3 ⊢
 have lu:bW.box b=some [.int .u8 kd,.str s,.int .i64 a]:=by rw [<- p8,a7]; rfl
 have yU:=e3.bg hr
 have A3:gT r (rd X i) U bW:=.mW hr e3
 replace O:=O.jo A3
 have fV:∀ t,X.L[i]?=some t->s=t.s/\kd=t.k:=fun t ht=>by
  rw [ht] at e; simp only [rV,qh,List.cons.injEq,AV.str.injEq,AV.int.injEq,true_and] at e; exact ⟨e.2.1.symm,e.1.symm⟩
 simp only [bN,aJ,aZ,su yU,rd,List.drop,jQ,df,su lu,MV,bD,bj,aP,rE]
 have Wy:∀ w ∈ kY.map (·.1),bf X.L i w=true->kd=3/\s=w:=fun w hw h=>by
  have:∀ w ∈ kY.map (·.1),w ∈ k0:=by decide
  obtain ⟨t,ht,hk,hs⟩:=Yk X.ok (this w hw) h
  obtain ⟨h1,h2⟩:=fV t ht
  exact ⟨by omega,h1.trans hs⟩
 have fin:(¬ (kd=3/\s ∈ kY.map (·.1)))->(∀ w ∈ kY.map (·.1),bf X.L i w=false):=fun h w hw=>by
  cases hx:bf X.L i w with
  | false=>rfl
  | true=>obtain ⟨h1,h2⟩:=Wy w hw hx; exact absurd ⟨h1,h2 ▸ hw⟩ h
 by_cases hc:kd=3/\s ∈ kY.map (·.1)
 . obtain ⟨h3,hs⟩:=hc
   obtain ⟨t,ht,hk,rU⟩:=(hm 3 (by omega)).1 h3
   subst h3
   have IF:bf X.L i s=true:=Yl ht (.inl hk) rU
   have cr:∀ w ∈ kY.map (·.1),w ≠ s->¬ (bf X.L i w=true):=fun w hw hn h=>hn (Wy w hw h).2.symm
   have key:∃ kP,kY.find? (fun p=>p.1=s)=some (s,kP)/\fw K.P kP=true/\∃ p,Ct X kP i p/\bw X.L X.E (fu+1) i=p:=by
    have hnd:bI X.L s i=.ok () (i+1):=by simp [bI,IF]
    have eU:s ∈ kY.map (·.1):=hs
    simp only [kY,eh,nF,cJ,List.not_mem_nil,or_false] at hs
    rcases hs with rfl | rfl | rfl | rfl | rfl | rfl
    . exact ⟨162,rfl,by kernel_rfl,_,OV hi hF,by rw [bw,if_neg (cr _ (by decide) (by decide)),if_neg (cr _ (by decide) (by decide)),if_neg (cr _ (by decide) (by decide)),if_neg (cr _ (by decide) (by decide)),if_pos IF,hnd]; rfl⟩
    . exact ⟨158,rfl,by kernel_rfl,_,OU hi hF,by rw [bw,if_pos IF,hnd]; rfl⟩
    . exact ⟨161,rfl,by kernel_rfl,_,UR hi hF,by rw [bw,if_neg (cr _ (by decide) (by decide)),if_neg (cr _ (by decide) (by decide)),if_neg (cr _ (by decide) (by decide)),if_pos IF,hnd]; rfl⟩
    . exact ⟨160,rfl,by kernel_rfl,_,X6 hi hF,by rw [bw,if_neg (cr _ (by decide) (by decide)),if_neg (cr _ (by decide) (by decide)),if_pos IF,hnd]; rfl⟩
    . exact ⟨163,rfl,by kernel_rfl,_,Qs hi hF,by rw [bw,if_neg (cr _ (by decide) (by decide)),if_neg (cr _ (by decide) (by decide)),if_neg (cr _ (by decide) (by decide)),if_neg (cr _ (by decide) (by decide)),if_neg (cr _ (by decide) (by decide)),if_pos IF,hnd]; rfl⟩
    . exact ⟨159,rfl,by kernel_rfl,_,Yz hi hF,by rw [bw,if_neg (cr _ (by decide) (by decide)),if_pos IF,hnd]; rfl⟩
   obtain ⟨kP,h1,h2,p,h3,h4⟩:=key
   rw [h1]
   simp only [Option.isSome_some,iJ,cI,aJ,mA,su lu,List.drop,jQ,bu,dZ,aM,if_true,aj,bG]
   rw [acM h2 (c:=[])]
   rw [h4] at O
   exact AU h3 yU O
 . have hw:=fin hc
   have hf:∀ w ∈ kY.map (·.1),¬ (bf X.L i w=true):=fun w h=>by rw [hw w h]; simp
   rw [bw,if_neg (hf _ (by decide)),if_neg (hf _ (by decide)),if_neg (hf _ (by decide)),if_neg (hf _ (by decide)),if_neg (hf _ (by decide)),if_neg (hf _ (by decide))] at O
   have ae6:∀ (c:Option (aG × Nat)) (A B:Prop),kY.find? (fun p=>p.1=s)=c->(c.isSome=true->kd ≠ 3):=fun c A B h1 h2 h3=>by
    cases c with
    | none=>cases h2
    | some p=>exact hc ⟨h3,by obtain ⟨k1,k2⟩:=Ye h1; exact List.mem_map.2 ⟨p,k1,k2⟩⟩
   have sel:∀ (V:AV) (A B:Prop),B->av (.bool false) A B:=fun _ _ _ hB=>by rw [bp]; exact hB
   have rest:jL 2
    (fun v0 hZ U =>
      av hZ (
    ae K 99 [v0,(AV.int .u8 16)] U (ag (fun gU U =>
    ae K 101 [v0] U (ag (fun j0 U =>
    (aV gU).wp K U (fun lz U =>
    (af (some 0) lz).wp K U (fun jF U =>
    (af (some 1) jF).wp K U (fun nL U =>
    (aI (some (false,1)) nL j0 U).wp K U (fun _ U =>
    ae K 102 [v0,(AV.str bL)] U (ag (fun v46 U =>
    ae K 169 [v0] U (ag (fun v49 U =>
    (ar (some (87,1)) (some [AV.aW]) 1 false [(0,v49)]).wp K U (fun ky U =>
    ae K 103 [gU,ky] U (ag (fun v51 U =>
    al R v51 U) (aa R))) (aa R)) (aa R))) (aa R))) (aa R)) (aa R)) (aa R)) (aa R)) (aa R))) (aa R))) (
    ae K 219 [v0,(AV.int .i64 2)] U (ag (fun v53 U =>
    al R v53 U) (aa R)))) (fun j =>
     aC.wp K bW
      (fun ep U =>
        aC.wp K U
         (fun v30 U =>
           ao K (aL v30 true) (aC.val (AV.box r 0)) fun fK =>
            av (aL v30 true)
             (ae K 167 [fK,AV.int IntKind.i64 1] U
               (ag
                 (fun fQ U =>
                   ao K (aL v30 true)
                    (ar (some (9,1)) (some [AV.str []]) 1 false [(0,AV.str bL)]) fun iK =>
                    ao K (aL v30 true) (aC.enter 121 [fQ,iK]) fun hY =>
                     aC.wp K U (fun qp U=>j (AV.box r 0) qp U) (aa R)
                      (bM v30 hY (AV.bool false)))
                 (aa R)))
             (ao K (aL v30 true)
               (ar (some (9,1)) (some [AV.str []]) 1 false [(0,AV.str bL)]) fun DV =>
               ao K (aL v30 true) (aC.enter 121 [AV.aH [],DV]) fun DW =>
                aC.wp K U (fun qp U=>j (AV.box r 0) qp U) (aa R)
                 (bM v30 DW (AV.bool false))))
         (aa R)
         (aw BinOp.eql { b:=false,i:=false,p:=false,f:=none,s:=false } true ep (AV.int IntKind.u8 1)))
      (aa R) (ak (some (false,1)) (AV.box b 0) bW)):=by
    intro j hj
    have yes:qy X.L i 1=true->bf X.L (i+1) bL=true->∀ cN,gT r (rd X i) bW cN->j (.box r 0) (.bool true) cN:=fun g1 g2 cN A4=>by
     refine hj _ _ _ ?_
     rw [if_pos ⟨g1,g2⟩] at O
     replace O:=O.jo A4
     rw [bG]
     refine gP A4.box hi fun k dv S=>?_
     simp only [bN,aj,aZ,df]
     refine nJ S O fun x _ S O=>nK S fun _ S=>dx S O fun _ S O=>?_
     exact mS hF (by omega) S O fun ns j dv hj fR S O=>eK S O
    have no:¬ (qy X.L i 1=true/\bf X.L (i+1) bL=true)->∀ cN,gT r (rd X i) bW cN->j (.box r 0) (.bool false) cN:=fun g cN A4=>by
     refine hj _ _ _ ?_
     rw [if_neg g] at O
     replace O:=O.jo A4
     rw [bp]
     exact hO r cN _ A4.box ⟨fun ns j e hj a ad hk A=>al.mk (O.ok ns j e hj a ad hk A),O.bad⟩
    have qO:qy X.L i 1=decide (kd=1):=by
     unfold qy
     cases ht:X.L[i]? with
     | none=>rw [ht] at e; simp only [rV,List.cons.injEq,AV.int.injEq,true_and] at e; simp [<- e.1]
     | some t=>obtain ⟨_,h2⟩:=fV t ht; rw [h2]; rw [pW]; simp; omega
    rw [gM lu]
    simp only [List.drop,bC,bu,aj,bj]
    by_cases h1:kd=1
    . simp only [h1,dZ,iJ,aP,cI,aJ,mA,bG]
      refine qE yU hi 1 (by omega) fun cN e4=>?_
      simp only [bE]
      rw [yl]
      refine ⟨by omega,?_⟩
      rw [uH (o:=0) (s:=1) rfl]
      refine ⟨⟨rfl,rfl,by simp [bO]⟩,?_⟩
      rw [AP]
      refine ⟨rfl,_,Nv (c:=.full) (X.L[i+1]?) [bL] (by simp) rfl,?_⟩
      rw [AO]
      simp only [aM,if_true,aj]
      cases Lx:bf X.L (i+1) bL with
      | true=>exact yes (by rw [qO]; simp [h1]) Lx _ (.mW yU e4)
      | false=>exact no (by rw [Lx]; simp) _ (.mW yU e4)
    . have Lk:(decide (kd=1) == true)=false:=by simp [h1]
      simp only [Lk,aP,cC,bp,h1,eX,aM,bQ,if_false,aj]
      simp only [beq_true,cC,bp]
      exact no (by rw [qO]; simp [h1]) _ ⟨yU,lj.refl _ _⟩
   cases wK:kY.find? (fun p=>p.1=s) with
   | none =>
     simp only [Option.isSome_none,cC,show (false == true)=false from rfl,aM,bQ,if_false,aj,bp]
     exact rest
   | some p =>
     have h3:¬ kd=3:=ae6 _ True True wK rfl
     simp only [Option.isSome_some,iJ,cI,aJ,mA,su lu,List.drop,jQ,bu,h3,eX,aM,if_true,aj,bp]
     exact rest
end
end Go.Rip
namespace Go.Rip
open Go.Proofs Go.RowKit
def wZ (lev:Nat):List (aG × Int) :=
 if lev=2 then [(CA,17)] else if lev=3 then [(yD,18)] else if lev=5 then [(sO,21),(gk,20)] else if lev=6 then [(sN,22),(rO,23)] else if lev=7 then [(tT,24)] else if lev=8 then [(tu,25)] else []
def Xa (lev:Nat):AV:=.ga ((wZ lev).map fun p=>.str p.1) ((wZ lev).map fun p=>.int .u8 p.2)
theorem U4 (lev:Nat) (h:lev=2\/lev=3\/lev=5\/lev=6\/lev=7\/lev=8) (U:St):eB (some (.i,185)) (some AV.jO) zR (.int .i64 (lev:Nat)) false U=.val (Xa lev):=by
 rcases h with rfl | rfl | rfl | rfl | rfl | rfl <;> rfl
theorem U5 (lev:Nat) (s:aG) (U:St):eB (some (.s,5)) (some (AV.int .u8 0)) (Xa lev) (.str s) true U=.val (.aH [.int .u8 (match (wZ lev).find? (fun p=>p.1=s) with | some p=>p.2 | none=>0),.bool ((wZ lev).find? (fun p=>p.1=s)).isSome]):=by
 have:=vo s (.int .u8 0) ((wZ lev).map fun p=>(p.1,AV.int .u8 p.2))
 rw [List.map_map,List.map_map,List.find?_map] at this
 simp only [eB,kH,ql,Xa]
 rw [show ((wZ lev).map fun p=>AV.str p.1)=List.map ((fun p:aG × AV=>AV.str p.1) ∘ fun p=>(p.1,AV.int .u8 p.2)) (wZ lev) from rfl,show ((wZ lev).map fun p=>AV.int .u8 p.2)=List.map ((fun p:aG × AV=>p.2) ∘ fun p=>(p.1,AV.int .u8 p.2)) (wZ lev) from rfl,this]
 have e:((fun p:aG × AV=>decide (p.1=s)) ∘ fun p:aG × Int=>(p.1,AV.int .u8 p.2))=fun p=>decide (p.1=s):=rfl
 rw [e]
 cases (wZ lev).find? fun p=>decide (p.1=s) <;> rfl
theorem L6 (L:List Tk) (lev i:Nat):nD L lev i=((wZ lev).find? (fun p=>p.1=sB L[i]?)).map (·.2):=by
 have hw:∀ w:aG,w ≠ []->bf L i w=decide (w=sB L[i]?):=fun w h=>by rw [FI h]; simp [eq_comm]
 unfold nD wZ
 rw [hw CA (by decide),hw yD (by decide),hw gk (by decide),hw sO (by decide),hw sN (by decide),hw rO (by decide),hw tT (by decide),hw tu (by decide)]
 generalize sB L[i]?=s
 repeat' split
 all_goals simp_all
 all_goals (subst_vars; rfl)
section
variable {X:Rx} {au U:St} {r k i:Nat} {kind:Int} {text:aG} {n m at_:Int} {l:List Nd} {R:cY->St->Prop} {K':AV->St->Prop} {Kp:AV->St->Prop}
theorem Mf (hr:U.box r=some (rd X i)) (hi:i <= X.L.length) (h:∀ ad,dm U ad->R (.ret (.str (sB X.L[i]?))) ad):ae K 253 [.box r 0] U R:=by
 refine S8 ?_
 unfold S7
 refine qE hr hi 0 (by omega) fun aR e1=>?_
 rw [Nat.add_zero]
 have sJ:∃ kd s a,rV X.L[i]?=[.int .u8 kd,.str s,.int .i64 a]/\sB X.L[i]?=if kd=3\/kd=4 then s else []:=by
  cases ht:X.L[i]? with
  | none=>exact ⟨0,[],0,rfl,rfl⟩
  | some t =>
    refine ⟨t.k,t.s,t.at_,rfl,?_⟩
    have e3:((t.k:Int)=3)=(t.k=3):=by simp; omega
    have e4:((t.k:Int)=4)=(t.k=4):=by simp; omega
    simp only [sB,e3,e4]
 obtain ⟨kd,s,a,e,hsg⟩:=sJ
 rw [e]
 rw [hsg] at h
 simp only [bE,kV]
 intro b hb
 have e2:=e1.new (x:=.box [AV.int .u8 0,AV.str [],AV.int .i64 0]) hb
 rw [show NV.at b .box=AV.box b 0 from rfl,dk aK]
 refine ⟨⟨rfl,rfl,by simp⟩,?_⟩
 have e3:=e2.set (x:=.box (aA [AV.int .u8 0,AV.str [],AV.int .i64 0] 0 (ax (.agg [.int .u8 kd,.str s,.int .i64 a])))) (e1.fresh hb.1)
 generalize p8:(aR.new b (.box [AV.int .u8 0,AV.str [],AV.int .i64 0])).set b (.box (aA [AV.int .u8 0,AV.str [],AV.int .i64 0] 0 (ax (.agg [.int .u8 kd,.str s,.int .i64 a]))))=bW at e3 ⊢
 have lu:bW.box b=some [.int .u8 kd,.str s,.int .i64 a]:=by rw [<- p8,a7]; rfl
 simp only [aZ,aj,gM lu,List.drop,bC,df,bu,bj,aP,rE,cI]
 by_cases h3:kd=3
 . subst h3
   simp [gM lu,bC]
   exact al.mk (h _ e3)
 . by_cases h4:kd=4
   . subst h4
     simp [gM lu,su lu,bC]
     exact al.mk (h _ e3)
   . simp [gM lu,su lu,bC,h3,h4]
     refine al.mk ?_
     have:=h _ e3
     rw [if_neg (by omega)] at this
     exact this
theorem Ti (S:Sk X au r k i kind text n m at_ l U) (aQ:i < X.L.length) {bt:BT} {lit:Bool} (h:∀ ad,Sk X au r k (i+1) kind text n m at_ l ad->K' (.aH []) ad) :
 (ak (some (false,1)) (.box r 1) U).wp K U (fun v U=>(aw .add bt lit v (.int .i64 1)).wp K U (fun v U=>(aI (some (false,1)) (.box r 1) v U).wp K U K' Kp) Kp) Kp:=by
 have hs:=X.small
 have hr:=S.A.box
 simp only [gM hr,rd,List.drop,bC,dO]
 refine ⟨bK (by omega) (by omega),?_⟩
 rw [dk hr]
 refine ⟨⟨rfl,rfl,by simp [rd]⟩,h _ (S.jo (j:=i+1) ⟨?_,(lj.refl r U).set (.inr rfl)⟩ aQ (by omega))⟩
 rw [a7]; simp [aA,rd]
theorem eE.ne_nil:∀ {b:Bool} {ks:List AV} {l:List Nd},eE b ks l->b=true->l=[]->ks=[]:=by
 have h1:∀ {b:Bool} {ks:List AV} {l:List Nd},eE b ks l->b=false->l ≠ []:=fun h e=>by
  cases h with
  | mk _ _=>simp [node]
  | nil=>cases e
  | cons _ _=>cases e
 intro b ks l h e hl
 cases h with
 | mk _ _=>cases e
 | nil=>rfl
 | cons a c=>exact absurd (List.append_eq_nil_iff.1 hl).1 (h1 a rfl)
theorem eE.dh {a:AV} {ns:List Nd} (hk:eE false [a] ns):a.dh=true/\ax a=[a]:=by
 generalize hb:false=b at hk
 generalize hl:[a]=la at hk
 cases hk with
 | mk _ _=>cases hl; exact ⟨rfl,rfl⟩
 | nil=>cases hl
 | cons _ _=>cases hb
theorem JL {a:AV} {ns:List Nd} (S:Sk X au r k i kind text n m at_ [] U) (hk:eE false [a] ns) (h:∀ a' ad,eE false [a'] (node kind text n m at_ ns)->gT r (rd X i) au ad->K' a' ad) :
 (ar (some (87,1)) (some [AV.aW]) 1 false [(0,a)]).wp K U (fun v U=>ae K 103 [.box k 0,v] U (ag K' Kp)) Kp:=by
 obtain ⟨ks,h1,h2,h3⟩:=S.M
 have:=h2.ne_nil rfl rfl
 subst this
 rw [gG]
 refine ⟨by omega,?_⟩
 rw [eJ (o:=0) (s:=1) rfl]
 refine ⟨⟨hk.dh.1,by rw [hk.dh.2]; rfl,by simp [bO]⟩,?_⟩
 rw [ik,hk.dh.2]
 refine ⟨rfl,?_⟩
 exact Mt (l2:=[a]) h1 S.A (by omega) rfl (by simp) fun ad M A=>M.done (h2.snoc hk) A fun a' ad hk A=>h a' ad hk A
theorem VI {a b:AV} {ns ms:List Nd} (S:Sk X au r k i kind text n m at_ [] U) (hk:eE false [a] ns) (gz:eE false [b] ms) (h:∀ a' ad,eE false [a'] (node kind text n m at_ (ns++ms))->gT r (rd X i) au ad->K' a' ad) :
 (ar (some (87,1)) (some [AV.aW]) 2 false [(0,a),(1,b)]).wp K U (fun v U=>ae K 103 [.box k 0,v] U (ag K' Kp)) Kp:=by
 obtain ⟨ks,h1,h2,h3⟩:=S.M
 have:=h2.ne_nil rfl rfl
 subst this
 rw [gG]
 refine ⟨by omega,?_⟩
 rw [eJ (o:=0) (s:=1) rfl]
 refine ⟨⟨hk.dh.1,by rw [hk.dh.2]; rfl,by simp [bO]⟩,?_⟩
 rw [hk.dh.2]
 rw [eJ (o:=1) (s:=1) rfl]
 refine ⟨⟨gz.dh.1,by rw [gz.dh.2]; rfl,by simp [bO,aA]⟩,?_⟩
 rw [ik,gz.dh.2]
 refine ⟨rfl,?_⟩
 exact Mt (l2:=[a,b]) h1 S.A (by omega) rfl (by simp) fun ad M A=>M.done (by simpa using (h2.snoc hk).snoc gz) A fun a' ad hk A=>h a' ad hk A
def Hl (X:Rx) (fu:Nat):Prop:=∀ f',f' <= fu->∀ j lev,j <= X.L.length->2 <= lev->lev <= 9->40 * (X.L.length - j)+(11 - lev) <= f'->Co X j lev (dX X.L X.E f' lev j)/\Gd X.L.length (j+1) j (dX X.L X.E f' lev j)
theorem YT {fu lev:Nat} (hi:i <= X.L.length) (h2:2 <= lev) (h9:lev <= 9) (hf:40 * (X.L.length - i)+(11 - lev) <= fu+1) (hA:lev=9->Ct X 252 i (fY X.L X.E fu i)) (hS:Hl X fu):Co X i lev (dX X.L X.E (fu+1) lev i):=by
 intro r U R hr O
 refine SF ?_
 unfold SE
 have hs:=X.small
 simp only [bu,aj,ca]
 refine ⟨fun e9=>?_,fun n9=>⟨fun e4=>?_,fun n4=>?_⟩⟩
 . have e9:lev=9:=by omega
   rw [dX,if_pos e9] at O
   exact AU (hA e9) hr O
 . have e4:lev=4:=by omega
   have n9:¬ lev=9:=by omega
   rw [dX,if_neg n9,if_pos e4] at O
   refine gP hr hi fun k aR S=>?_
   refine rJ S (fun hw bh S=>?_) fun hw bh S=>?_
   . rw [if_pos hw] at O
     simp only [bG]
     have aQ:=dw hw
     obtain ⟨g1,g2⟩:=hS fu (bT _) (i+1) 4 aQ (by omega) (by omega) (by omega)
     refine g1 r bh _ S.A.box ⟨fun ns j e hj a ad hk A=>?_,fun j e ad A=>O.bad j (by rw [e]; rfl) ad (S.A.trans A)⟩
     rw [e] at g2 O
     have fR:i+1 < j:=g2.1
     refine JL (S.jo A hj (by omega)) hk fun a' ad Bn A'=>?_
     exact al.mk (O.ok _ _ rfl hj a' ad Bn A')
   . rw [if_neg (by rw [hw]; simp)] at O
     simp only [bp,dO]
     refine ⟨bK (by omega) (by omega),?_⟩
     obtain ⟨g1,g2⟩:=hS fu (bT _) i 5 hi (by omega) (by omega) (by omega)
     subst e4
     refine g1 r bh _ S.A.box ?_
     replace O:=O.jo S.A
     exact ⟨fun ns j e hj a ad hk A=>al.mk (O.ok ns j e hj a ad hk A),O.bad⟩
 . have n9:¬ lev=9:=by omega
   have n4:¬ lev=4:=by omega
   rw [dX,if_neg n9,if_neg n4] at O
   rw [dO]
   refine ⟨bK (by omega) (by omega),?_⟩
   obtain ⟨g1,g2⟩:=hS fu (bT _) i (lev+1) hi (by omega) (by omega) (by omega)
   rw [show ((lev:Nat):Int)+1=((lev+1:Nat):Int) by omega]
   refine g1 r U _ hr ⟨fun ns j e hj a aR hk A=>?_,fun j e ad A=>O.bad j (by rw [e]; rfl) ad A⟩
   rw [e] at g2 O
   have fR:i < j:=g2.1
   replace O:Out X r aR R (kM X.L X.E fu lev ns j):=Out.jo O A
   refine ⟨fun mm v0 v1 v6 ad=>∃ left j f',mm=X.L.length - j/\v0=.box r 0/\v1=.int .i64 (lev:Nat)/\j <= X.L.length/\i < j/\40 * (X.L.length - j)+1 <= f'/\f' <= fu/\eE false [v6] left/\ad.box r=some (rd X j)/\Out X r ad R (kM X.L X.E f' lev left j),
    ⟨_,ns,j,fu,rfl,rfl,rfl,hj,fR,by omega,bT _,hk,A.box,O⟩,?_⟩
   clear hk A O fR hj e g1 g2
   rintro mm v0 v1 v6 bh ⟨left,j,f',rfl,rfl,rfl,hj,fR,Wt,Ig,hk,uw,O⟩
   cases f' with
   | zero=>omega
   | succ f' =>
     rw [kM,L6] at O
     simp only [bN,aJ,aZ,df,su uw,rd,List.drop,jQ,U4 lev (by omega)]
     refine Mf uw hj fun bW e3=>?_
     simp only [bE]
     refine ⟨?_,?_,?_⟩
     . intro b hb
       simp only [eM,zR,jY,gD,jX,cJ,List.not_mem_nil,or_false] at hb
       subst hb
       cases e:bh.live b with
       | none=>exact absurd e (cD uw)
       | some x=>exact e3 b x e
     . intro b hb
       simp [eM,Xa] at hb
     simp only [U5,aJ,bD,List.drop,jQ,eI,aj]
     have A3:gT r (rd X j) bh bW:=.mW uw e3
     cases hop:(wZ lev).find? fun p=>p.1=sB X.L[j]? with
     | none =>
       rw [hop] at O
       simp only [Option.isSome_none,fD,bG]
       exact al.mk (O.ok _ _ rfl hj _ bW hk A3)
     | some p =>
       rw [hop] at O
       replace O:=O.jo A3
       simp only [Option.isSome_some,du,bp]
       have aQ:j < X.L.length:=L7 (lev:=lev) (k:=p.2) (by rw [L6,hop]; rfl)
       refine gP A3.box hj fun k cN S=>?_
       simp only [bN,aj,aZ,df]
       refine Ti S aQ fun dv S=>?_
       simp only [bu,aj,ca]
       simp only [Option.map_some] at O
       refine ⟨fun e8=>?_,fun n8=>?_⟩
       . have e8:lev=8:=by omega
         rw [if_pos e8] at O
         refine pv S O fun x nQ S O=>Ag S fun jy S=>?_
         have lJ:=S.hi
         refine JL S hk fun a' ad Bn A'=>?_
         exact ⟨_,by omega,_,j+1+1,f',rfl,rfl,rfl,S.hi,by omega,by omega,by omega,Bn,A'.box,O.jo A'⟩
       . have n8:¬ lev=8:=by omega
         rw [if_neg n8] at O
         simp only [dO]
         refine ⟨bK (by omega) (by omega),?_⟩
         obtain ⟨g1,g2⟩:=hS f' (by omega) (j+1) (lev+1) aQ (by omega) (by omega) (by omega)
         rw [show ((lev:Nat):Int)+1=((lev+1:Nat):Int) by omega]
         refine g1 r dv _ S.A.box ⟨fun ns j2 e qN b nQ hkb A=>?_,fun j e ad A=>O.bad j (by rw [e]; rfl) ad (S.A.trans A)⟩
         rw [e] at g2 O
         have xL:j+1 < j2:=g2.1
         refine VI (S.jo A qN (by omega)) hk hkb fun a' ad Bn A'=>?_
         replace O:Out X r bW R (if lev=5 then .ok (node p.2 [] 0 0 (dc X.L X.E j) (left++ns)) j2 else kM X.L X.E f' lev (node p.2 [] 0 0 (dc X.L X.E j) (left++ns)) j2):=O
         refine ⟨fun e5=>?_,fun n5=>?_⟩
         . rw [if_pos (by omega)] at O
           exact al.mk (O.ok _ _ rfl qN a' ad Bn A')
         . rw [if_neg (by omega)] at O
           exact ⟨_,by omega,_,j2,f',rfl,rfl,rfl,qN,by omega,by omega,by omega,Bn,A'.box,O.jo A'⟩
end
end Go.Rip
namespace Go.Rip
open Go.Proofs Go.RowKit
theorem eE.size {a:AV} {l:List Nd} (h:eE false [a] l):∃ x r,l=x::r/\x.size=(l.length:Int):=by
 generalize hb:false=b at h
 generalize hl:[a]=la at h
 cases h with
 | mk _ _=>exact ⟨_,_,rfl,by simp [node]⟩
 | nil=>cases hl
 | cons _ _=>cases hb
theorem eE.count:∀ {ks ks':List AV} {l:List Nd},eE true ks l->eE true ks' l->ks.length=ks'.length
 | [],ks',l,h,h'=>by
   have:l=[]:=by
    generalize hb:true=b at h
    generalize hl:([]:List AV)=la at h
    cases h with
    | mk _ _=>cases hb
    | nil=>rfl
    | cons _ _=>cases hl
   rw [h'.ne_nil rfl this]
 | a::ks,ks',l,h,h'=>by
   generalize hb:true=b at h
   generalize hl:a::ks=la at h
   cases h with
   | mk _ _=>cases hb
   | nil=>cases hl
   | @cons a1 ks1 l1 l2 h1 h2 =>
     cases hl
     obtain ⟨x,r,e1,e2⟩:=h1.size
     generalize C2:l1++l2=ll at h'
     generalize fC:true=b' at h'
     cases h' with
     | mk _ _=>cases fC
     | nil=>rw [e1] at C2; cases C2
     | @cons a3 ks3 l3 l4 h3 h4 =>
       obtain ⟨y,r',e3,e4⟩:=h3.size
       have PU:x=y:=by rw [e1,e3] at C2; simpa using congrArg List.head? C2
       have hlen:l1.length=l3.length:=by rw [PU] at e2; omega
       obtain ⟨_,h24⟩:=List.append_inj C2 hlen
       subst h24
       simp [eE.count h2 h4]
section
variable {X:Rx} {au U:St} {r k i:Nat} {kind:Int} {text:aG} {n m at_:Int} {l:List Nd} {R:cY->St->Prop} {K':AV->St->Prop} {Kp:AV->St->Prop} {w:aG}
theorem VJ {q:Unit->Nat->PR (List Nd)} (hr:U.box r=some (rd X i)) (hi:i <= X.L.length) (O:Out X r U R ((bI X.L w i).bind q)) (h:∀ ad,i+1 <= X.L.length->gT r (rd X (i+1)) U ad->Out X r ad R (q () (i+1))->K' (.aH []) ad):ae K 102 [.box r 0,.str w] U (ag K' (aa R)) :=
 Ez hr hi w (fun e hl ad A=>h ad hl A (by rw [e] at O; exact Out.jo O A)) fun e ad A=>O.bad _ (by rw [e]; rfl) _ A
theorem EO (S:Sk X au r k i kind text n m at_ l U) (hb:bf X.L i w=true) (h:∀ ad,Sk X au r k (i+1) kind text n m at_ l ad->K' (.aH []) ad):ae K 102 [.box r 0,.str w] U (ag K' Kp) :=
 Ez S.A.box S.hi w (fun e hl ad A=>h ad (S.jo A hl (by omega))) fun e ad A=>by simp [bI,hb] at e
structure Below (X:Rx) (fu:Nat):Prop where
 term:∀ f',f' <= fu->∀ j,j <= X.L.length->40 * (X.L.length - j)+11 <= f'->Ct X 109 j (gJ X.L X.E f' j)
 first:∀ f',f' <= fu->∀ j,j <= X.L.length->40 * (X.L.length - j)+10 <= f'->Ct X 169 j (bw X.L X.E f' j)
 oper:∀ f',f' <= fu->∀ j lev,j <= X.L.length->2 <= lev->lev <= 9->40 * (X.L.length - j)+(11 - lev) <= f'->Co X j lev (dX X.L X.E f' lev j)
 atom:∀ f',f' <= fu->∀ j,j <= X.L.length->40 * (X.L.length - j)+1 <= f'->Ct X 252 j (fY X.L X.E f' j)
 arg:∀ f',f' <= fu->∀ j,j <= X.L.length->40 * (X.L.length - j)+12 <= f'->Ct X 269 j (iL X.L X.E f' j)
theorem Below.Pg {fu i:Nat} (B:Below X fu) (hf:40 * (X.L.length - i)+10 <= fu+40):jn X fu i:=fun j hj fR =>
 ⟨B.first fu (bT _) j hj (by omega),(zo fu).2.2.1 j hj (by omega)⟩
theorem Below.ops {fu:Nat} (B:Below X fu):Hl X fu:=fun f' hf j lev hj h2 h9 he=>⟨B.oper f' hf j lev hj h2 h9 he,(zo f').2.2.2.1 j lev hj h9 he⟩
theorem XW {fu:Nat} (B:Below X fu) (he:40 * (X.L.length - i)+12 <= fu) {q:List Nd->Nat->PR (List Nd)} (S:Sk X au r k i kind text n m at_ l U) (O:Out X r au R ((iL X.L X.E fu i).bind fun a j=>(j9 X.L X.E fu a j).bind q))
 (h:∀ ns j ad,j <= X.L.length->i < j->Sk X au r k j kind text n m at_ (l++ns) ad->Out X r au R (q ns j)->K' (.aH []) ad):ae K 106 [.box r 0,.box k 0,.func (.func 269) [.box r 0] []] U (ag K' (aa R)):=by
 refine Gl ?_
 unfold Jz
 have mV:fw K.P 269=true:=by kernel_rfl
 rw [Hg mV (c:=[])]
 simp only [Dx]
 have C:∀ f',f' <= fu->∀ j,j <= X.L.length->40 * (X.L.length - j)+12 <= f'->Ct X 269 j (iL X.L X.E f' j)/\Gd X.L.length (j+1) j (iL X.L X.E f' j):=fun f' h1 j h2 h3=>⟨B.arg f' h1 j h2 h3,(zo f').2.2.2.2.2.2.2 j h2 h3⟩
 obtain ⟨c1,c2⟩:=C fu (bT _) i S.hi he
 refine iD S c1 c2 O fun ns j aR hj fR S1 O1=>?_
 refine ⟨fun mm v0 v1 v2 ad=>∃ acc j f',mm=X.L.length - j/\v0=.box r 0/\v1=.box k 0/\v2=.func (.func 269) [.box r 0] []/\j <= X.L.length/\i < j/\40 * (X.L.length - j)+1 <= f'/\f' <= fu/\Sk X au r k j kind text n m at_ (l++acc) ad/\Out X r au R ((j9 X.L X.E f' acc j).bind q),
  ⟨_,ns,j,fu,rfl,rfl,rfl,rfl,hj,fR,by omega,bT _,S1,O1⟩,?_⟩
 rintro mm v0 v1 v2 bh ⟨acc,j2,f',rfl,rfl,rfl,rfl,qN,xL,Ig,hf3,S2,O2⟩
 cases f' with
 | zero=>omega
 | succ f' =>
   rw [j9] at O2
   refine rJ S2 (fun hw bW S3=>?_) (fun hw bW S3=>?_)
   . simp only [bG]
     rw [if_pos hw] at O2
     have aQ:=dw hw
     rw [Hg mV (c:=[])]
     have e2:((iL X.L X.E f' (j2+1)).bind fun b j=>j9 X.L X.E f' (acc++b) j).bind q=(iL X.L X.E f' (j2+1)).bind fun b j=>(j9 X.L X.E f' (acc++b) j).bind q:=by
      cases iL X.L X.E f' (j2+1) <;> rfl
     rw [e2] at O2
     obtain ⟨c1,c2⟩:=C f' (by omega) _ aQ (by omega)
     refine iD S3 c1 c2 O2 fun ns3 j3 cN hj3 afl S4 O4=>?_
     exact ⟨_,by omega,acc++ns3,j3,f',rfl,rfl,rfl,rfl,hj3,by omega,by omega,by omega,by rw [<- gi]; exact S4,O4⟩
   . simp only [bp]
     rw [if_neg (by rw [hw]; simp)] at O2
     exact al.mk (h acc j2 bW qN xL S3 O2)
theorem aaH {fu:Nat} (B:Below X fu) (hi:i <= X.L.length) (he:40 * (X.L.length - i)+12 <= fu+1):Ct X 269 i (iL X.L X.E (fu+1) i):=by
 intro r U R hr O
 refine Ta ?_
 unfold S9
 rw [iL] at O
 have hs:=X.small
 have hF:=B.Pg (i:=i) (by omega)
 refine JK hr hi fun b aR hb A1=>?_
 replace O:=O.jo A1
 cases b with
 | true =>
   simp only [bG]
   rw [if_pos hb] at O
   refine gP A1.box hi fun k bh S=>?_
   refine EO S hb fun bW S=>dx S O fun bW S O=>?_
   refine Ew (by kernel_rfl) (fun i hi=>K3 hi) (fun i hi=>xD hi) (by omega) (by omega) S O fun ns j cN hj fR S O=>?_
   refine dx S O fun dv S O=>?_
   exact mS hF (by omega) S O fun ns j dv hj fR S O=>eK S O
 | false =>
   simp only [bp]
   rw [if_neg (by rw [hb]; simp)] at O
   refine JK A1.box hi fun b2 bh iW A2=>?_
   replace O:=O.jo A2
   cases b2 with
   | true =>
     simp only [bG]
     rw [if_pos iW] at O
     refine gP A2.box hi fun k bh S=>?_
     refine EO S iW fun bW S=>dx S O fun bW S O=>?_
     refine mS hF (by omega) S O fun ns j dv hj fR S O=>dx S O fun _ S O=>dx S O fun _ S O=>?_
     refine iD S (K3 S.hi) (xD S.hi) O fun ns j dv hj fR S O=>dx S O fun _ S O=>?_
     exact mS hF (by omega) S O fun ns j dv hj fR S O=>dx S O fun _ S O=>eK S O
   | false =>
     simp only [bp]
     rw [if_neg (by rw [iW]; simp)] at O
     exact AU (B.term fu (bT _) i hi (by omega)) A2.box O
end
end Go.Rip
namespace Go.Rip
open Go.Proofs Go.RowKit
theorem gR {U:St} {b:Nat} {ks vs:List AV}:(U.set b (.mp ks vs)).mp b=some (ks,vs):=by simp [St.mp,dQ]
theorem vr {U:St} {b:Nat} {ks vs:List AV}:(U.new b (.mp ks vs)).mp b=some (ks,vs):=by simp [St.mp,mM]
theorem NM {U ad:St} {b:Nat} (h:ad.live b=U.live b):ad.mp b=U.mp b:=by simp [St.mp,h]
theorem dm.mp {U ad:St} {b:Nat} {x:List AV × List AV} (h:dm U ad) (k:U.mp b=some x):ad.mp b=some x:=by
 cases e:U.live b with
 | none=>simp [St.mp,e] at k
 | some y=>rw [NM ((h b y e).trans e.symm)]; exact k
theorem xo {C:cS} {U:St} {K':AV->St->Prop} {Kp:AV->St->Prop} {m:Nat} {ks vs ks' vs':List AV} {s:aG} {v:AV} {t:TypeId} (h:U.mp m=some (ks,vs)) (hf:ml .s (.str s) ks 0=some none) (hi:gV (.str s) v ks vs=(ks',vs')) :
 (dW (some (.s,t)) (.mp m) (.str s) v U).wp C U K' Kp=K' (.aH []) (U.set m (.mp ks' vs')):=by
 simp only [dW,h,hf,ql,hi]; rfl
def sR:List (aG × Int):=[(lZ,32),(dB,28),(gK,30),(jS,31),(fB,29),(dy,27)]
theorem XY (s:aG) {U:St} {m:Nat} (h:U.mp m=some (sR.map fun p=>.str p.1,sR.map fun p=>.int .u8 p.2)):eB (some (.s,5)) (some (AV.int .u8 0)) (.mp m) (.str s) true U=.val (.aH [.int .u8 (match sR.find? (fun p=>p.1=s) with | some p=>p.2 | none=>0),.bool (sR.find? (fun p=>p.1=s)).isSome]):=by
 have:=vo s (.int .u8 0) (sR.map fun p=>(p.1,AV.int .u8 p.2))
 rw [List.map_map,List.map_map,List.find?_map] at this
 simp only [eB,kH,ql,h]
 rw [show (sR.map fun p=>AV.str p.1)=List.map ((fun p:aG × AV=>AV.str p.1) ∘ fun p=>(p.1,AV.int .u8 p.2)) sR from rfl,show (sR.map fun p=>AV.int .u8 p.2)=List.map ((fun p:aG × AV=>p.2) ∘ fun p=>(p.1,AV.int .u8 p.2)) sR from rfl,this]
 have e:((fun p:aG × AV=>decide (p.1=s)) ∘ fun p:aG × Int=>(p.1,AV.int .u8 p.2))=fun p=>decide (p.1=s):=rfl
 rw [e]
 cases sR.find? fun p=>decide (p.1=s) <;> rfl
section
variable {X:Rx} {au U:St} {r k i:Nat} {kind:Int} {text:aG} {n m at_:Int} {l:List Nd} {R:cY->St->Prop} {K':AV->St->Prop} {Kp:AV->St->Prop} {w:aG}
theorem XZ {fu:Nat} (B:Below X fu) (hi:i <= X.L.length) (he:40 * (X.L.length - i)+1 <= fu+1):Ct X 252 i (fY X.L X.E (fu+1) i):=by
 intro r U R hr O
 refine S6 ?_
 unfold S5
 have hs:=X.small
 rw [kV]
 intro mm sW
 have e1:dm U (U.new mm (.mp [] [])):=(dm.refl U).new sW
 have hn:=sW.1
 rw [show NV.at mm .mp=AV.mp mm from rfl]
 generalize UG:U.new mm (.mp [] [])=aR at e1 ⊢
 have m1:aR.mp mm=some ([],[]):=by rw [<- UG]; exact vr
 rw [xo (ks':=[.str dy]) (vs':=[.int .u8 27]) m1 rfl rfl]
 rw [xo (ks':=[.str dB,.str dy]) (vs':=[.int .u8 28,.int .u8 27]) gR rfl rfl]
 rw [xo (ks':=[.str dB,.str fB,.str dy]) (vs':=[.int .u8 28,.int .u8 29,.int .u8 27]) gR rfl rfl]
 rw [xo (ks':=[.str dB,.str gK,.str fB,.str dy]) (vs':=[.int .u8 28,.int .u8 30,.int .u8 29,.int .u8 27]) gR rfl rfl]
 rw [xo (ks':=[.str dB,.str gK,.str jS,.str fB,.str dy]) (vs':=[.int .u8 28,.int .u8 30,.int .u8 31,.int .u8 29,.int .u8 27]) gR rfl rfl]
 rw [xo (ks':=[.str lZ,.str dB,.str gK,.str jS,.str fB,.str dy]) (vs':=[.int .u8 32,.int .u8 28,.int .u8 30,.int .u8 31,.int .u8 29,.int .u8 27]) gR rfl rfl]
 have e2:=(((((e1.set (x:=.mp [.str dy] [.int .u8 27]) hn).set (x:=.mp [.str dB,.str dy] [.int .u8 28,.int .u8 27]) hn).set (x:=.mp [.str dB,.str fB,.str dy] [.int .u8 28,.int .u8 29,.int .u8 27]) hn).set (x:=.mp [.str dB,.str gK,.str fB,.str dy] [.int .u8 28,.int .u8 30,.int .u8 29,.int .u8 27]) hn).set (x:=.mp [.str dB,.str gK,.str jS,.str fB,.str dy] [.int .u8 28,.int .u8 30,.int .u8 31,.int .u8 29,.int .u8 27]) hn).set (x:=.mp [.str lZ,.str dB,.str gK,.str jS,.str fB,.str dy] [.int .u8 32,.int .u8 28,.int .u8 30,.int .u8 31,.int .u8 29,.int .u8 27]) hn
 generalize UH:((((((aR.set mm (.mp [.str dy] [.int .u8 27])).set mm _).set mm _).set mm _).set mm _).set mm _)=bh at e2 ⊢
 have m2:bh.mp mm=some (sR.map fun p=>.str p.1,sR.map fun p=>.int .u8 p.2):=by rw [<- UH]; exact gR
 have uw:=e2.bg hr
 refine Mf uw hi fun bW e3=>?_
 simp only [bE,XY _ (e3.mp m2),aj,bD,List.drop,bC]
 have A3:gT r (rd X i) U bW:=.mW hr (e2.trans e3)
 replace O:=O.jo A3
 have hw:∀ w:aG,w ≠ []->bf X.L i w=decide (w=sB X.L[i]?):=fun w h=>by rw [FI h]; simp [eq_comm]
 rw [fY,hw dy (by decide),hw dB (by decide),hw fB (by decide),hw gK (by decide),hw jS (by decide),hw lZ (by decide)] at O
 simp only [ee] at O
 cases Lj:sR.find? fun p=>p.1=sB X.L[i]? with
 | some p =>
   simp only [Option.isSome_some,bG]
   have hp:p ∈ sR:=List.mem_of_find?_eq_some Lj
   have tD:p.1=sB X.L[i]?:=by simpa using List.find?_some Lj
   have cr:p.1 ≠ []:=by
    have:∀ p ∈ sR,p.1 ≠ []:=by decide
    exact this p hp
   have aQ:i < X.L.length:=dw (w:=p.1) (by rw [hw _ cr,tD]; simp)
   refine gP A3.box hi fun k cN S=>?_
   simp only [bN,aj,aZ,df]
   refine Ti S aQ fun dv S=>?_
   intro j hj
   simp only [bu,aj,bj,aP,rE,cI]
   rw [<- tD] at O
   simp only [sR,cJ,List.not_mem_nil,or_false] at hp
   have t1:(lZ=dy)=False:=by simp; decide
   rcases hp with rfl | rfl | rfl | rfl | rfl | rfl
   . simp (decide:=true) only [if_false,if_true] at O
     simp (decide:=true) [bG]
     exact nJ S O fun x _ S O=>nK S fun _ S=>hj _ _ (eK S O)
   . simp (decide:=true) only [if_false,if_true] at O
     simp (decide:=true) [bp]
     exact hj _ _ (eK S O)
   . simp (decide:=true) only [if_false,if_true] at O
     simp (decide:=true) [bp]
     exact hj _ _ (eK S O)
   . simp (decide:=true) only [if_false,if_true] at O
     simp (decide:=true) [bG]
     exact nJ S O fun x _ S O=>nK S fun _ S=>hj _ _ (eK S O)
   . simp (decide:=true) only [if_false,if_true] at O
     simp (decide:=true) [bp]
     exact hj _ _ (eK S O)
   . simp (decide:=true) only [if_false,if_true] at O
     simp (decide:=true) [bp]
     exact hj _ _ (eK S O)
 | none =>
   simp only [Option.isSome_none,bp]
   have jC:∀ w ∈ sR.map (·.1),¬ w=sB X.L[i]?:=fun w hw e=>by
    rw [List.find?_eq_none] at Lj
    obtain ⟨p,hp,rfl⟩:=List.mem_map.1 hw
    simpa [e] using Lj p hp
   rw [if_neg (jC _ (by decide)),if_neg (jC _ (by decide)),if_neg (jC _ (by decide)),if_neg (jC _ (by decide)),if_neg (jC _ (by decide)),if_neg (jC _ (by decide))] at O
   refine I9 A3.box hi cB (fun hb cN A4=>?_) (fun hb cN e4=>?_)
   . simp only [bE,bG]
     rw [if_pos hb] at O
     have aQ:=dw hb
     replace O:=O.jo A4
     have g2:=(zo (L:=X.L) (E:=X.E) fu).1 (i+1) aQ (by omega)
     refine B.term fu (bT _) (i+1) aQ (by omega) r cN _ A4.box ⟨fun ns j e hj a ad hk A=>?_,fun j e ad A=>O.bad j (by rw [e]; rfl) ad A⟩
     rw [e] at O
     refine VJ A.box hj (Out.jo O A) fun dv hj5 A5 O=>?_
     exact al.mk (O.ok _ _ rfl hj5 a dv hk ⟨A5.box,lj.refl _ _⟩)
   . simp only [bE,bp]
     rw [if_neg (by rw [hb]; simp)] at O
     have A4:gT r (rd X i) bW cN:=.mW A3.box e4
     replace O:=O.jo A4
     refine qE A4.box hi 0 (by omega) fun dv e5=>?_
     rw [Nat.add_zero]
     have A5:gT r (rd X i) cN dv:=.mW A4.box e5
     replace O:=O.jo A5
     obtain ⟨kd,s,a,e,hm⟩:=vG X.L[i]?
     rw [e]
     simp only [bE,MU,List.drop,bC,bu,aj,ca]
     have gz:qy X.L i 2=true ↔ kd=2:=by
      refine Iff.trans ?_ (hm 2 (by omega)).symm
      unfold qy
      cases ht:X.L[i]? with
      | none=>simp
      | some t =>
        rw [ht] at e; simp only [rV,qh,List.cons.injEq,AV.str.injEq,true_and] at e
        simp [e.2.1]
     refine ⟨fun h2=>?_,fun h2=>?_⟩
     . rw [if_pos (gz.2 h2)] at O
       refine gP A5.box hi fun k nQ S=>?_
       simp only [bN,aj,aZ,df]
       exact pv S O fun x _ S O=>Ag S fun _ S=>eK S O
     . rw [if_neg (fun h=>h2 (gz.1 h))] at O
       refine gP A5.box hi fun k nQ S=>?_
       simp only [bN,aj,aZ,df]
       refine nJ S O fun x _ S O=>nK S fun _ S=>?_
       intro j hj
       refine rJ S (fun hw jy S=>?_) fun hw jy S=>?_
       . simp only [bG]
         rw [if_pos hw] at O
         have hh:=S.hi
         refine AT S fun _ S=>XW B (by omega) S O fun ns j2 vK qN xL S O=>?_
         exact dx S O fun _ S O=>hj _ _ (eK S O)
       . simp only [bp]
         rw [if_neg (by rw [hw]; simp)] at O
         exact hj _ _ (eK S O)
end
end Go.Rip
namespace Go.Rip
open Go.Proofs Go.RowKit
section
variable {X:Rx} {au U:St} {r k i:Nat} {kind:Int} {text:aG} {n m at_:Int} {l:List Nd} {R:cY->St->Prop} {K':AV->St->Prop} {Kp:AV->St->Prop} {w:aG}
theorem Y9 {a:AV} {ns:List Nd} (S:Sk X au r k i kind text n m at_ [] U) (hi:1 <= i) (hk:eE false [a] ns) (h:∀ ad,Sk X au r k i kind text n m at_ ns ad->K' (.box k 0) ad) :
 (ar (some (87,1)) (some [AV.aW]) 1 false [(0,a)]).wp K U (fun v U=>ae K 103 [.box k 0,v] U (ag K' (aa R))) (aa R) :=
 JJ S (fun ks h1 h2 h3=>⟨ks,h1,h2,by rw [h2.ne_nil rfl rfl]; simpa using hi⟩) hk fun ad S=>h ad (by simpa using S)
theorem Up {U:St} {v:AV} {e sz n:Nat} {l:List AV} (h:Grow U v e sz n l):cE (some false) v=.val (.int .i64 n):=by
 rcases h with ⟨rfl,rfl,rfl⟩ | ⟨τ,rfl,_⟩ <;> rfl
theorem Zc {fu:Nat} (B:Below X fu) (hi:i <= X.L.length) (he:40 * (X.L.length - i)+11 <= fu+1):Ct X 109 i (gJ X.L X.E (fu+1) i):=by
 intro r U R hr O
 refine Rb ?_
 unfold Ra
 have hs:=X.small
 rw [gJ] at O
 have g:=(zo (L:=X.L) (E:=X.E) fu).2.2.1 i hi (by omega)
 refine B.first fu (bT _) i hi (by omega) r U _ hr ⟨fun ns j e hj a aR hk A1=>?_,fun j e ad A=>O.bad j (by rw [e]; rfl) ad A⟩
 rw [e] at O g
 have fR:i < j:=g.1
 have O1:Out X r aR R (mR X.L X.E fu (dc X.L X.E j) ns 1 j):=Out.jo O A1
 clear O e g
 refine gP A1.box hj fun k bh S=>?_
 refine Y9 S (by omega) hk fun bW S=>?_
 intro jj Bm
 have fin:∀ (acc:List Nd) (many q:Nat) (ad:St),Sk X aR r k q 9 [] 0 0 (dc X.L X.E j) acc ad->(∃ ks,eE true ks acc/\ks.length=many)->(many=1->acc=ns)->Out X r aR R (.ok (if many=1 then acc else node 9 [] 0 0 (dc X.L X.E j) acc) q)->jj a (.box k 0) ad:=by
  intro acc many q ad S ⟨ks0,Lo,qP⟩ h1 O
  refine Bm _ _ _ ?_
  have hq':=S.hi
  have hA':=S.A
  obtain ⟨ks,M,Lq,hle⟩:=S.M
  have hl:ks.length=many:=(Lq.count Lo).trans qP
  obtain ⟨kv,b1,b2,b3,b4⟩:=M.box
  simp only [bN,aj,aZ,df,gM b1,mw,List.drop,bC,Up b2,bu,ca,hl]
  refine ⟨fun h=>?_,fun h=>?_⟩
  . have h:many=1:=by omega
    rw [if_pos h] at O
    have:=h1 h
    subst this
    exact al.mk (O.ok _ _ rfl hq' a ad hk hA')
  . rw [if_neg (by omega)] at O
    exact eK S O
 refine ⟨fun mm v0 v3 v4 ad=>∃ acc many q f',mm=X.L.length - q/\v0=.box r 0/\v3=a/\v4=.box k 0/\i < q/\40 * (X.L.length - q)+1 <= f'/\f' <= fu/\Sk X aR r k q 9 [] 0 0 (dc X.L X.E j) acc ad/\(∃ ks,eE true ks acc/\ks.length=many)/\(many=1->acc=ns)/\1 <= many/\Out X r aR R (mR X.L X.E f' (dc X.L X.E j) acc many q),
  ⟨_,ns,1,j,fu,rfl,rfl,rfl,rfl,fR,by omega,bT _,S,⟨[a],hk.one,rfl⟩,fun _=>rfl,bT _,O1⟩,?_⟩
 clear O1 S fR
 rintro mm v0 v3 v4 cN ⟨acc,many,q,f',rfl,rfl,rfl,rfl,hiq,Wt,Ig,S,iE,Ls,WA,O⟩
 cases f' with
 | zero=>omega
 | succ f' =>
   rw [mR] at O
   have hq:=S.hi
   refine Tj S fun b dv hb S=>?_
   cases b with
   | false =>
     simp only [bp]
     rw [if_neg (by rw [hb]; simp)] at O
     exact fin acc many q dv S iE Ls O
   | true =>
     simp only [bG]
     have aQ:=dw hb
     refine qE S.A.box hq 1 (by omega) fun nQ e6=>?_
     obtain ⟨kd,s,at',e,hm⟩:=vG X.L[q+1]?
     have Em:kd=0 ↔ X.L.length <= q+1:=by
      cases ht:X.L[q+1]? with
      | none =>
        rw [ht] at e; simp only [rV,List.cons.injEq,AV.int.injEq,true_and] at e
        rw [List.getElem?_eq_none_iff] at ht
        exact ⟨fun _=>ht,fun _=>e.1.symm⟩
      | some t =>
        rw [ht] at e; simp only [rV,qh,List.cons.injEq,AV.int.injEq,true_and] at e
        have:=(dC.1 ht).1
        have hk:=(X.ok t (gr ht)).cases
        constructor
        . intro h; omega
        . intro h; omega
     have hbg:=J5 X.L[q+1]?
     rw [YH] at hbg
     rw [e] at hbg ⊢
     simp only [bE,kV]
     intro b2 iW
     have e7:=e6.new (x:=.box [AV.int .u8 0,AV.str [],AV.int .i64 0]) iW
     rw [show NV.at b2 .box=AV.box b2 0 from rfl,dk aK]
     refine ⟨⟨rfl,rfl,by simp⟩,?_⟩
     have e8:=e7.set (x:=.box (aA [AV.int .u8 0,AV.str [],AV.int .i64 0] 0 (ax (.agg [.int .u8 kd,.str s,.int .i64 at'])))) (e6.fresh iW.1)
     generalize p8:(nQ.new b2 (.box [AV.int .u8 0,AV.str [],AV.int .i64 0])).set b2 (.box (aA [AV.int .u8 0,AV.str [],AV.int .i64 0] 0 (ax (.agg [.int .u8 kd,.str s,.int .i64 at']))))=vK at e8 ⊢
     have sU:vK.box b2=some [.int .u8 kd,.str s,.int .i64 at']:=by rw [<- p8,a7]; rfl
     replace S:=S.jo (.mW S.A.box e8) hq (bT _)
     simp only [aZ,aj,gM sU,List.drop,bC,df,bu,bj,aP]
     have stop:¬ (q+1 < X.L.length/\tn X.L (q+1)=false)->jj v3 (.box k 0) vK:=fun hn=>by
      rw [if_neg (fun h=>hn h.2)] at O
      exact fin acc many q vK S iE Ls O
     by_cases h0:kd=0
     . simp only [h0,dZ,show (true == false)=false from rfl,cC,aM,if_true,aj,bG]
       exact stop (fun h=>by have:=Em.1 h0; omega)
     . simp only [h0,eX,iJ,cI,G9 sU,z6,mA,aM,bQ,if_false,aj]
       refine ⟨by simp,_,hbg,?_⟩
       cases hit:tn X.L (q+1) with
       | true=>simp only [bG]; exact stop (fun h=>by rw [hit] at h; cases h.2)
       | false =>
         simp only [bp]
         have Iq:q+1 < X.L.length:=by
          rcases kO (q+1) X.L.length with h | h
          . exact h
          . exact absurd (Em.2 h) h0
         rw [if_pos ⟨hb,Iq,hit⟩] at O
         refine EO S hb fun te S=>?_
         have hF:jn X f' q:=fun j hj hqj=>⟨B.first f' (by omega) j hj (by omega),(zo f').2.2.1 j hj (by omega)⟩
         have abf:∀ Dq a2,eE false [a2] Dq->∃ ks,eE true ks (acc++Dq)/\ks.length=many+1:=fun Dq a2 h=>by
          obtain ⟨ks,h1,h2⟩:=iE
          exact ⟨ks++[a2],h1.snoc h,by simp [h2]⟩
         obtain ⟨g1,g2⟩:=hF (q+1) aQ (by omega)
         refine g1 r te _ S.A.box ⟨fun Dq j2 e qN a2 yJ gz A2=>?_,fun j e ad A=>O.bad j (by rw [e]; rfl) ad (S.A.trans A)⟩
         rw [e] at g2 O
         have hqj:q+1 < j2:=g2.1
         obtain ⟨ks,M1,M2,M3⟩:=S.M
         have S2:=S.jo A2 qN (by omega)
         refine JJ S2 (fun _ _ _ _=>⟨ks,M1.jo A2 S.A.box,M2,by omega⟩) gz fun agA S3=>?_
         refine ⟨_,?_,acc++Dq,many+1,j2,f',rfl,rfl,rfl,rfl,by omega,by omega,by omega,S3,abf Dq a2 gz,fun h=>by omega,by omega,O⟩
         omega
end
theorem below:∀ (X:Rx) (fu:Nat),Below X fu:=fun X fu=>by
 induction fu with
 | zero=>constructor <;> intros <;> omega
 | succ fu B =>
   have st:∀ {f':Nat},f' <= fu+1->f' <= fu\/f'=fu+1:=fun h=>by omega
   refine ⟨fun f' hf j hj he=>?_,fun f' hf j hj he=>?_,fun f' hf j lev hj h2 h9 he=>?_,fun f' hf j hj he=>?_,fun f' hf j hj he=>?_⟩
   . rcases st hf with h | rfl
     . exact B.term f' h j hj he
     . exact Zc B hj he
   . rcases st hf with h | rfl
     . exact B.first f' h j hj he
     . exact Ug hj (B.Pg (by omega)) (B.oper fu (bT _) j 2 hj (by omega) (by omega) (by omega))
   . rcases st hf with h | rfl
     . exact B.oper f' h j lev hj h2 h9 he
     . exact YT hj h2 h9 he (fun h=>B.atom fu (bT _) j hj (by omega)) B.ops
   . rcases st hf with h | rfl
     . exact B.atom f' h j hj he
     . exact XZ B hj he
   . rcases st hf with h | rfl
     . exact B.arg f' h j hj he
     . exact aaH B hj he
theorem UN (X:Rx) {i:Nat} (hi:i <= X.L.length):Ct X 55 i (lU X.L X.E (fuel X.L) i):=by
 have hf:40 * (X.L.length+2)=fuel X.L:=rfl
 exact Yp hi (by omega) fun j hj fR=>⟨(below X _).term _ (bT _) j hj (by omega),(zo _).1 j hj (by omega)⟩
end Go.Rip
