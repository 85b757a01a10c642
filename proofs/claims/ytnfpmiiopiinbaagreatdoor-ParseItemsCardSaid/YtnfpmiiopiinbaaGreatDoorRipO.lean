/- Lemmas for the proof: no conditions. -/
import Derived.Test.YtnfpmiiopiinbaaGreatDoorRipZz
import Derived.Test.YtnfpmiiopiinbaaGreatDoorRipN
set_option linter.unusedVariables false
set_option linter.unusedSimpArgs false
set_option linter.loopingSimpArgs false
namespace Go.Rip
open Go.Proofs Go.RowKit
section
variable {X:Rx} {i:Nat}
theorem PT {U:St} {r:Nat} {w:aQ} {K':AV->St->Prop} {Kp:AV->St->Prop} (hr:U.box r=some (rd X i)) (hi:i <= X.L.length) (h:∀ b ad,cz X.L i w=b->fH r (rd X i) U ad->K' (.bool b) ad) :
 (aq (some (9,1)) (some [AV.str []]) 1 false [(0,.str w)]).wp K U (fun v U=>ae K 105 [.box r 0,v] U (ag K' Kp)) Kp:=by
 rw [fN]
 refine ⟨by omega,?_⟩
 rw [ek (o:=0) (s:=1) rfl]
 refine ⟨⟨rfl,rfl,by simp [bF]⟩,?_⟩
 rw [gI]
 refine ⟨rfl,?_⟩
 refine Kb (l:=[w]) hr hi (by simp) fun aP e1=>?_
 exact h _ _ (by rw [yP]) (.kr hr e1)
theorem CL {U:St} {r:Nat} {R:cA->St->Prop} {f:FuncId} {p:PR (List Nd)} (C:Ct X f i p) (hr:U.box r=some (rd X i)) (O:Out X r U R p):ae K f [.box r 0] U (ag (fun v U=>ak R v U) (aa R)) :=
 C r U _ hr ⟨fun ns j e hj a ad hk A=>ak.mk (O.ok ns j e hj a ad hk A),O.bad⟩
theorem Ig (hi:i <= X.L.length):Ct X 278 i (AE X.L X.E i):=by
 intro r U R hr O
 refine PK ?_
 unfold PJ
 refine gZ hr hi fun k aP S=>?_
 simp only [bU,al,bg,cV]
 exact pb S O fun x bZ S O=>pc S fun dm S=>fE S O
end
end Go.Rip
namespace Go.Rip
open Go.Proofs Go.RowKit
theorem Ka {c:j9} (o:Option Tk) (l:List aQ) (hn:l.length <= 100000) (hc:closed (.vec l.length c (l.map .str))=true):Pure K 121 [.agg (pV o),.vec l.length c (l.map .str)] (.bool (tY o l)):=by
 refine Pure.of ?_ rfl (fun U=>rfl) fun R hR=>z6 o l hn fun ad _=>hR ad
 have:closed (.agg (pV o))=true:=by cases o <;> rfl
 simp only [bY,this,hc,Bool.and_self]
section
variable {X:Rx} {ao U:St} {r k i:Nat} {kind:Int} {text:aQ} {n m at_:Int} {l:List Nd} {R:cA->St->Prop} {K':AV->St->Prop} {Kp:AV->St->Prop} {w:aQ} {f:FuncId}
def gN (X:Rx) (f i:Nat):Prop:=∀ j,j <= X.L.length->i < j->Ct X 169 j (cB X.L X.E f j)/\Gd X.L.length (j+1) j (cB X.L X.E f j)
def B4 (X:Rx) (f:Nat) (fin:List Nd->Nat->PR (List Nd)):List aQ->List Nd->Nat->PR (List Nd)
 | [],acc,i=>fin acc i
 | w::ws,acc,i=>(cT X.L w i).bind fun _ j=>(cB X.L X.E f j).bind fun a j=>B4 X f fin ws (acc++a) j
theorem GX {fu i0:Nat} (hF:gN X fu i0) {fin:List Nd->Nat->PR (List Nd)} (ws:List aQ) (hw:ws.length <= 10) (xH:i0 <= i) (S:Sk X ao r k i kind text n m at_ l U) {ac:List Nd} (hac:ac=l) (O:Out X r ao R (B4 X fu fin ws ac i))
 (h:∀ acc j ad,Sk X ao r k j kind text n m at_ acc ad->Out X r ao R (fin acc j)->ak R (.box k 0) ad) :
 eP 5 [.box r 0,.box k 0,.vec ws.length .full (ws.map .str),.int .i64 ws.length,.int .i64 0] U fun lp v0 v3 nx ke v10 U =>
 (ar .lss (BT.mk false false false none false) false v10 ke).wp K U (fun v11 U =>
 av v11 (
  (aG (some (9,1)) none nx v10).wp K U (fun v12 U =>
  (ah (some (false,1)) v12 U).wp K U (fun cb U =>
  ae K 102 [v0,cb] U (ag (fun dc U =>
  ae K 169 [v0] U (ag (fun cL U =>
  (aq (some (87,1)) (some [AV.aV]) 1 false [(0,cL)]).wp K U (fun v20 U =>
  ae K 103 [v3,v20] U (ag (fun v21 U =>
  (ar .add (BT.mk false false false none false) true v10 (AV.int .i64 1)).wp K U (fun dS U =>
  lp v0 v3 nx ke dS U) (aa R)) (aa R))) (aa R)) (aa R))) (aa R))) (aa R)) (aa R)) (
  ak R v3 U)) (aa R):=by
 subst hac
 refine ⟨fun mm v0 v3 v8 v9 v10 ad=>∃ t acc j,t <= ws.length/\mm=ws.length - t/\v0=.box r 0/\v3=.box k 0/\v8=.vec ws.length .full (ws.map .str)/\v9=.int .i64 ws.length/\v10=.int .i64 (t:Nat)/\i0 <= j/\Sk X ao r k j kind text n m at_ acc ad/\Out X r ao R (B4 X fu fin (ws.drop t) acc j),
  ⟨_,0,_,_,by omega,rfl,rfl,rfl,rfl,rfl,rfl,xH,S,O⟩,?_⟩
 rintro mm v0 v3 v8 v9 v10 aP ⟨t,acc,j,ht,rfl,rfl,rfl,rfl,rfl,rfl,fJ,S,O⟩
 simp only [bP,al,bR]
 refine ⟨fun aO=>?_,fun jo=>?_⟩
 . have aO:t < ws.length:=by omega
   have hd:(ws.map AV.str).drop (t * 1)=.str ws[t]::(ws.map AV.str).drop (t+1):=by
    rw [Nat.mul_one,gl (by simpa using aO)]; simp
   have wM:ws.drop t=ws[t]::ws.drop (t+1):=gl aO
   rw [wM] at O
   simp only [CU,gb,hd,oB,bE]
   refine ⟨by omega,?_⟩
   unfold B4 at O
   refine eY S O fun aZ S O=>?_
   obtain ⟨g1,g2⟩:=hF _ S.hi (by omega)
   refine lO S g1 g2 O fun ns j2 bZ sd Cm S O=>?_
   simp only [dr]
   refine ⟨bw (by omega) (by omega),ws.length - (t+1),by omega,t+1,_,_,aO,rfl,rfl,rfl,rfl,rfl,rfl,by omega,S,O⟩
 . have:t=ws.length:=by omega
   subst this
   rw [List.drop_length] at O
   exact h _ _ _ S O
theorem LC {fu:Nat} (hi:i <= X.L.length) (hF:gN X fu i):Ct X 158 i ((cT X.L uk i).bind fun _ j=>(cB X.L X.E fu j).bind fun c j=>(cT X.L pS j).bind fun _ j=>(cB X.L X.E fu j).bind fun a j=>(cT X.L fZ j).bind fun _ j=>(cB X.L X.E fu j).bind fun b j=>.ok (node 10 [] 0 0 (fp X.L X.E i) (c++a++b)) j):=by
 intro r U R hr O
 refine Ot ?_
 unfold Oq
 refine gZ hr hi fun k aP S=>?_
 rw [fN]
 refine ⟨by omega,?_⟩
 rw [ek (o:=0) (s:=1) rfl]
 refine ⟨⟨rfl,rfl,by simp [bF]⟩,?_⟩
 rw [ek (o:=1) (s:=1) rfl]
 refine ⟨⟨rfl,rfl,by simp [bF,aB]⟩,?_⟩
 rw [ek (o:=2) (s:=1) rfl]
 refine ⟨⟨rfl,rfl,by simp [bF,aB]⟩,?_⟩
 rw [gI]
 refine ⟨rfl,?_⟩
 simp only [uV,al]
 exact GX (fin:=fun acc j=>.ok (node 10 [] 0 0 (fp X.L X.E i) acc) j) hF [uk,pS,fZ] (by simp) (dk _) S rfl O fun acc j ad S O=>fE S O
theorem UX {fu:Nat} (hi:i <= X.L.length) (hF:gN X fu i):Ct X 159 i ((cT X.L lz i).bind fun _ j=>(cB X.L X.E fu j).bind fun a j=>(cT X.L uj j).bind fun _ j=>(cB X.L X.E fu j).bind fun b j=>.ok (node 11 [] 0 0 (fp X.L X.E i) (a++b)) j):=by
 intro r U R hr O
 refine Ov ?_
 unfold Ou
 refine gZ hr hi fun k aP S=>?_
 rw [fN]
 refine ⟨by omega,?_⟩
 rw [ek (o:=0) (s:=1) rfl]
 refine ⟨⟨rfl,rfl,by simp [bF]⟩,?_⟩
 rw [ek (o:=1) (s:=1) rfl]
 refine ⟨⟨rfl,rfl,by simp [bF,aB]⟩,?_⟩
 rw [gI]
 refine ⟨rfl,?_⟩
 simp only [uV,al]
 exact GX (fin:=fun acc j=>.ok (node 11 [] 0 0 (fp X.L X.E i) acc) j) hF [lz,uj] (by simp) (dk _) S rfl O fun acc j ad S O=>fE S O
theorem kL {fu i0:Nat} {q:List Nd->Nat->PR (List Nd)} (hF:gN X fu i0) (h0:i0 < i) (S:Sk X ao r k i kind text n m at_ l U) (O:Out X r ao R ((cB X.L X.E fu i).bind q))
 (h:∀ ns j ad,j <= X.L.length->i < j->Sk X ao r k j kind text n m at_ (l++ns) ad->Out X r ao R (q ns j)->K' (.box k 0) ad) :
 ae K 169 [.box r 0] U (ag (fun v U=>(aq (some (87,1)) (some [AV.aV]) 1 false [(0,v)]).wp K U (fun v U=>ae K 103 [.box k 0,v] U (ag K' (aa R))) (aa R)) (aa R)) :=
 lO S (hF _ S.hi h0).1 (hF _ S.hi h0).2 O h
theorem Ux {fu:Nat} (hi:i <= X.L.length) (hF:gN X fu i):Ct X 160 i ((cT X.L rM i).bind fun _ j=>(jX X.L j).bind fun x j=>(cT X.L gX j).bind fun _ j=>(lK X.L j).bind fun n j=>(cT X.L bX j).bind fun _ j=>(lK X.L j).bind fun m j=>(cT X.L lT j).bind fun _ j=>(cB X.L X.E fu j).bind fun a j=>.ok (node 12 x n m (fp X.L X.E i) a) j):=by
 intro r U R hr O
 refine Ox ?_
 unfold Ow
 refine gZ hr hi fun k aP S=>?_
 simp only [bU,al,bg,cV]
 refine eY S O fun _ S O=>pb S O fun x _ S O=>pc S fun _ S=>eY S O fun _ S O=>qJ S O fun _ _ S O=>KX S fun _ S=>eY S O fun _ S O=>qJ S O fun _ _ S O=>adZ S fun _ S=>eY S O fun _ S O=>?_
 exact kL hF (by omega) S O fun ns j dm hj fJ S O=>fE S O
theorem Rf {fu:Nat} (hi:i <= X.L.length) (hF:gN X fu i):Ct X 161 i ((cT X.L nL i).bind fun _ j=>(jX X.L j).bind fun x j=>(cT X.L lT j).bind fun _ j=>(cB X.L X.E fu j).bind fun a j=>(cT X.L fZ j).bind fun _ j=>(cB X.L X.E fu j).bind fun b j=>.ok (node 13 x 0 0 (fp X.L X.E i) (a++b)) j):=by
 intro r U R hr O
 refine Oz ?_
 unfold Oy
 refine gZ hr hi fun k aP S=>?_
 simp only [bU,al,bg,cV]
 refine eY S O fun _ S O=>pb S O fun x _ S O=>pc S fun _ S=>eY S O fun _ S O=>?_
 refine kL hF (by omega) S O fun ns j dm hj fJ S O=>eY S O fun _ S O=>?_
 exact kL hF (by omega) S O fun ns j dm hj fJ S O=>fE S O
theorem LF {fu:Nat} (hi:i <= X.L.length) (hF:gN X fu i):Ct X 162 i ((cT X.L kM i).bind fun _ j=>(cB X.L X.E fu j).bind fun a j=>(cT X.L fZ j).bind fun _ j=>(cB X.L X.E fu j).bind fun b j=>.ok (node 15 [] 0 0 (fp X.L X.E i) (a++b)) j):=by
 intro r U R hr O
 refine OB ?_
 unfold OA
 refine gZ hr hi fun k aP S=>?_
 refine eY S O fun _ S O=>?_
 refine kL hF (by omega) S O fun ns j dm hj fJ S O=>eY S O fun _ S O=>?_
 exact kL hF (by omega) S O fun ns j dm hj fJ S O=>fE S O
theorem M9 {fu:Nat} (hi:i <= X.L.length) (hF:gN X fu i):Ct X 163 i ((cT X.L lU i).bind fun _ j=>(jX X.L j).bind fun x j=>(cT X.L bX j).bind fun _ j=>(lK X.L j).bind fun n j=>(cT X.L lT j).bind fun _ j=>(cB X.L X.E fu j).bind fun a j=>.ok (node 14 x n 0 (fp X.L X.E i) a) j):=by
 intro r U R hr O
 refine OD ?_
 unfold OC
 refine gZ hr hi fun k aP S=>?_
 simp only [bU,al,bg,cV]
 refine eY S O fun _ S O=>pb S O fun x _ S O=>pc S fun _ S=>eY S O fun _ S O=>qJ S O fun _ _ S O=>KX S fun _ S=>eY S O fun _ S O=>?_
 exact kL hF (by omega) S O fun ns j dm hj fJ S O=>fE S O
end
end Go.Rip
namespace Go.Rip
open Go.Proofs Go.RowKit
def jv:List (aQ × Nat):=[(kM,162),(uk,158),(nL,161),(rM,160),(lU,163),(lz,159)]
theorem JH:uA=.eZ (jv.map fun p=>.str p.1) (jv.map fun p=>.func (.func p.2) [] []):=rfl
theorem tf (s:aQ) (z:AV):∀ l:List (aQ × AV),lI .s (.str s) z true (l.map fun p=>.str p.1) (l.map fun p=>p.2)=.val (.aF [match l.find? (fun p=>p.1=s) with | some p=>p.2 | none=>z,.bool (l.find? (fun p=>p.1=s)).isSome])
 | []=>rfl
 | p::l=>by
   simp only [dV,lI,gk,List.find?_cons]
   by_cases h:s=p.1
   . subst h; simp
   . have h':¬ p.1=s:=fun e=>h e.symm
     simp only [h',dN]
     rw [show (s == p.1)=false by simp [h]]
     simpa using tf s z l
theorem JG (s:aQ) (U:St):dz (some (.s,186)) (some AV.dj) uA (.str s) true U=.val (.aF [match jv.find? (fun p=>p.1=s) with | some p=>.func (.func p.2) [] [] | none=>.dj,.bool (jv.find? (fun p=>p.1=s)).isSome]):=by
 rw [JH]
 have:=tf s .dj (jv.map fun p=>(p.1,AV.func (.func p.2) [] []))
 simp only [dz,jb,oG]
 rw [List.map_map,List.map_map] at this
 rw [show (jv.map fun p=>AV.str p.1)=List.map ((fun p:aQ × AV=>AV.str p.1) ∘ fun p=>(p.1,AV.func (.func p.2) [] [])) jv from rfl,show (jv.map fun p=>AV.func (.func p.2) [] [])=List.map ((fun p:aQ × AV=>p.2) ∘ fun p=>(p.1,AV.func (.func p.2) [] [])) jv from rfl,this]
 congr 2
 rw [List.find?_map]
 have e:((fun p:aQ × AV=>decide (p.1=s)) ∘ fun p:aQ × Nat=>(p.1,AV.func (.func p.2) [] []))=fun p=>decide (p.1=s):=rfl
 rw [e]
 cases jv.find? fun p=>decide (p.1=s) <;> rfl
theorem Hm (o:Option Tk):Pure K 61 [.agg (pV o)] (.bool (tY o [eS,j0,gz])):=by
 refine Pure.of ?_ rfl (fun U=>rfl) fun R hR=>?_
 . cases o <;> rfl
 refine RR ?_
 have ht:(pV o).length=3:=by cases o <;> rfl
 unfold TK
 rw [er rfl]
 intro b hb
 rw [show au (.agg (pV o))=pV o from rfl,pQ aK]
 refine ⟨by simp [ht],?_⟩
 rw [fN]
 refine ⟨by omega,?_⟩
 rw [ek (o:=0) (s:=1) rfl]
 refine ⟨⟨rfl,rfl,by simp [bF]⟩,?_⟩
 rw [ek (o:=1) (s:=1) rfl]
 refine ⟨⟨rfl,rfl,by simp [bF,aB]⟩,?_⟩
 rw [ek (o:=2) (s:=1) rfl]
 refine ⟨⟨rfl,rfl,by simp [bF,aB]⟩,?_⟩
 rw [gI]
 refine ⟨rfl,?_⟩
 rw [dJ,pL (by omega)]
 exact z6 (c:=.full) o [eS,j0,gz] (by simp) fun ad _=>ak.mk (hR ad)
theorem U5 (L:List Tk) (i:Nat):tY L[i]? [eS,j0,gz]=Cr L i:=by
 unfold tY Cr cz
 cases h:L[i]? with
 | none=>rfl
 | some t =>
   simp only [h]
   cases hk:(t.k == 3 || t.k == 4) with
   | false=>simp
   | true =>
     simp only [Bool.true_and]
     rw [nY]
     simp [or_assoc]
section
variable {X:Rx} {ao U:St} {r k i:Nat} {R:cA->St->Prop} {K':AV->St->Prop} {Kp:AV->St->Prop} {f:FuncId}
theorem aah {jl:FuncId} (he:dU K.P jl=true) {c:List AV}:(gr K.P (.func (.func jl) [] []) [.box r 0]).wp K U K' Kp=ae K jl [.box r 0] U (ag K' Kp):=by
 simp [gr,he]
def Co (X:Rx) (i lev:Nat) (p:PR (List Nd)):Prop:=∀ (r:Nat) (U:St) (R:cA->St->Prop),U.box r=some (rd X i)->Out X r U R p->ae K 219 [.box r 0,.int .i64 (lev:Nat)] U R
theorem UF {s:aQ} {p:aQ × Nat} (h:jv.find? (fun p=>p.1=s)=some p):p ∈ jv/\p.1=s:=⟨List.mem_of_find?_eq_some h,by simpa using List.find?_some h⟩
theorem QH {fu:Nat} (hi:i <= X.L.length) (hF:gN X fu i) (hO:Co X i 2 (ku X.L X.E fu 2 i)):Ct X 169 i (cB X.L X.E (fu+1) i):=by
 intro r U R hr O
 refine OM ?_
 unfold OL
 refine oS hr hi 0 (by omega) fun aP e1=>?_
 rw [Nat.add_zero]
 obtain ⟨kd,s,a,e,hm⟩:=tA X.L[i]?
 rw [e]
 simp only [bu,ju]
 intro b hb
 have FU:=e1.aS hr
 have e2:=e1.new (x:=.box [AV.int .u8 0,AV.str [],AV.int .i64 0]) hb
 rw [show NV.at b .box=AV.box b 0 from rfl,cX aK]
 refine ⟨⟨rfl,rfl,by simp⟩,?_⟩
 have e3:=e2.set (x:=.box (aB [AV.int .u8 0,AV.str [],AV.int .i64 0] 0 (au (.agg [.int .u8 kd,.str s,.int .i64 a])))) (e1.fresh hb.1)
 generalize om:(aP.new b (.box [AV.int .u8 0,AV.str [],AV.int .i64 0])).set b (.box (aB [AV.int .u8 0,AV.str [],AV.int .i64 0] 0 (au (.agg [.int .u8 kd,.str s,.int .i64 a]))))=bZ at e3 ⊢
 have jn:bZ.box b=some [.int .u8 kd,.str s,.int .i64 a]:=by rw [<- om,aW]; rfl
 have zo:=e3.aS hr
 have A3:fH r (rd X i) U bZ:=.kr hr e3
 replace O:=O.gO A3
 have fg:∀ t,X.L[i]?=some t->s=t.s/\kd=t.k:=fun t ht=>by
  rw [ht] at e; simp only [pV,oy,List.cons.injEq,AV.str.injEq,AV.int.injEq,true_and] at e; exact ⟨e.2.1.symm,e.1.symm⟩
 simp only [bU,aC,bg,pI zo,rd,List.drop,fi,cV,pI jn,JG,bB,aU,aI,pJ]
 have hkw:∀ w ∈ jv.map (·.1),cz X.L i w=true->kd=3/\s=w:=fun w hw h=>by
  have:∀ w ∈ jv.map (·.1),w ∈ lH:=by decide
  obtain ⟨t,ht,hk,hs⟩:=UJ X.ok (this w hw) h
  obtain ⟨h1,h2⟩:=fg t ht
  exact ⟨by omega,h1.trans hs⟩
 have fin:(¬ (kd=3/\s ∈ jv.map (·.1)))->(∀ w ∈ jv.map (·.1),cz X.L i w=false):=fun h w hw=>by
  cases hx:cz X.L i w with
  | false=>rfl
  | true=>obtain ⟨h1,h2⟩:=hkw w hw hx; exact absurd ⟨h1,h2 ▸ hw⟩ h
 by_cases hc:kd=3/\s ∈ jv.map (·.1)
 . obtain ⟨h3,hs⟩:=hc
   obtain ⟨t,ht,hk,xM⟩:=(hm 3 (by omega)).1 h3
   subst h3
   have F2:cz X.L i s=true:=UK ht (.inl hk) xM
   have bT:∀ w ∈ jv.map (·.1),w ≠ s->¬ (cz X.L i w=true):=fun w hw hn h=>hn (hkw w hw h).2.symm
   have key:∃ jl,jv.find? (fun p=>p.1=s)=some (s,jl)/\dU K.P jl=true/\∃ p,Ct X jl i p/\cB X.L X.E (fu+1) i=p:=by
    have hnd:cT X.L s i=.ok () (i+1):=by simp [cT,F2]
    have dY:s ∈ jv.map (·.1):=hs
    simp only [jv,dV,lq,cD,List.not_mem_nil,or_false] at hs
    rcases hs with rfl | rfl | rfl | rfl | rfl | rfl
    . exact ⟨162,rfl,by kernel_rfl,_,LF hi hF,by rw [cB,if_neg (bT _ (by decide) (by decide)),if_neg (bT _ (by decide) (by decide)),if_neg (bT _ (by decide) (by decide)),if_neg (bT _ (by decide) (by decide)),if_pos F2,hnd]; rfl⟩
    . exact ⟨158,rfl,by kernel_rfl,_,LC hi hF,by rw [cB,if_pos F2,hnd]; rfl⟩
    . exact ⟨161,rfl,by kernel_rfl,_,Rf hi hF,by rw [cB,if_neg (bT _ (by decide) (by decide)),if_neg (bT _ (by decide) (by decide)),if_neg (bT _ (by decide) (by decide)),if_pos F2,hnd]; rfl⟩
    . exact ⟨160,rfl,by kernel_rfl,_,Ux hi hF,by rw [cB,if_neg (bT _ (by decide) (by decide)),if_neg (bT _ (by decide) (by decide)),if_pos F2,hnd]; rfl⟩
    . exact ⟨163,rfl,by kernel_rfl,_,M9 hi hF,by rw [cB,if_neg (bT _ (by decide) (by decide)),if_neg (bT _ (by decide) (by decide)),if_neg (bT _ (by decide) (by decide)),if_neg (bT _ (by decide) (by decide)),if_neg (bT _ (by decide) (by decide)),if_pos F2,hnd]; rfl⟩
    . exact ⟨159,rfl,by kernel_rfl,_,UX hi hF,by rw [cB,if_neg (bT _ (by decide) (by decide)),if_pos F2,hnd]; rfl⟩
   obtain ⟨jl,h1,h2,p,h3,h4⟩:=key
   rw [h1]
   simp only [Option.isSome_some,gm,bQ,aC,lr,pI jn,List.drop,fi,bj,da,aL,if_true,al,bH]
   rw [aah h2 (c:=[])]
   rw [h4] at O
   exact CL h3 zo O
 . have hw:=fin hc
   have hf:∀ w ∈ jv.map (·.1),¬ (cz X.L i w=true):=fun w h=>by rw [hw w h]; simp
   rw [cB,if_neg (hf _ (by decide)),if_neg (hf _ (by decide)),if_neg (hf _ (by decide)),if_neg (hf _ (by decide)),if_neg (hf _ (by decide)),if_neg (hf _ (by decide))] at O
   have acK:∀ (c:Option (aQ × Nat)) (A B:Prop),jv.find? (fun p=>p.1=s)=c->(c.isSome=true->kd ≠ 3):=fun c A B h1 h2 h3=>by
    cases c with
    | none=>cases h2
    | some p=>exact hc ⟨h3,by obtain ⟨k1,k2⟩:=UF h1; exact List.mem_map.2 ⟨p,k1,k2⟩⟩
   have sel:∀ (V:AV) (A B:Prop),B->av (.bool false) A B:=fun _ _ _ hB=>by rw [bq]; exact hB
   have rest:jx 2
    (fun v0 gp U =>
      av gp (
    ae K 99 [v0,(AV.int .u8 16)] U (ag (fun iv U =>
    ae K 101 [v0] U (ag (fun jE U =>
    (aY iv).wp K U (fun jF U =>
    (af (some 0) jF).wp K U (fun js U =>
    (af (some 1) js).wp K U (fun mb U =>
    (aJ (some (false,1)) mb jE U).wp K U (fun _ U =>
    ae K 102 [v0,(AV.str bX)] U (ag (fun v46 U =>
    ae K 169 [v0] U (ag (fun v49 U =>
    (aq (some (87,1)) (some [AV.aV]) 1 false [(0,v49)]).wp K U (fun ig U =>
    ae K 103 [iv,ig] U (ag (fun v51 U =>
    ak R v51 U) (aa R))) (aa R)) (aa R))) (aa R))) (aa R)) (aa R)) (aa R)) (aa R)) (aa R))) (aa R))) (
    ae K 219 [v0,(AV.int .i64 2)] U (ag (fun v53 U =>
    ak R v53 U) (aa R)))) (fun j =>
     aD.wp K bZ
      (fun dE U =>
        aD.wp K U
         (fun v30 U =>
           ai K (aH v30 true) (aD.val (AV.box r 0)) fun eU =>
            av (aH v30 true)
             (ae K 167 [eU,AV.int IntKind.i64 1] U
               (ag
                 (fun eR U =>
                   ai K (aH v30 true)
                    (aq (some (9,1)) (some [AV.str []]) 1 false [(0,AV.str bX)]) fun gn =>
                    ai K (aH v30 true) (aD.enter 121 [eR,gn]) fun gy =>
                     aD.wp K U (fun oJ U=>j (AV.box r 0) oJ U) (aa R)
                      (bp v30 gy (AV.bool false)))
                 (aa R)))
             (ai K (aH v30 true)
               (aq (some (9,1)) (some [AV.str []]) 1 false [(0,AV.str bX)]) fun BW =>
               ai K (aH v30 true) (aD.enter 121 [AV.aF [],BW]) fun BX =>
                aD.wp K U (fun oJ U=>j (AV.box r 0) oJ U) (aa R)
                 (bp v30 BX (AV.bool false))))
         (aa R)
         (ar BinOp.eql { b:=false,i:=false,p:=false,f:=none,s:=false } true dE (AV.int IntKind.u8 1)))
      (aa R) (ah (some (false,1)) (AV.box b 0) bZ)):=by
    intro j hj
    have yes:tT X.L i 1=true->cz X.L (i+1) bX=true->∀ cC,fH r (rd X i) bZ cC->j (.box r 0) (.bool true) cC:=fun g1 g2 cC A4=>by
     refine hj _ _ _ ?_
     rw [if_pos ⟨g1,g2⟩] at O
     replace O:=O.gO A4
     rw [bH]
     refine gZ A4.box hi fun k dm S=>?_
     simp only [bU,al,bg,cV]
     refine pb S O fun x _ S O=>pc S fun _ S=>eY S O fun _ S O=>?_
     exact kL hF (by omega) S O fun ns j dm hj fJ S O=>fE S O
    have no:¬ (tT X.L i 1=true/\cz X.L (i+1) bX=true)->∀ cC,fH r (rd X i) bZ cC->j (.box r 0) (.bool false) cC:=fun g cC A4=>by
     refine hj _ _ _ ?_
     rw [if_neg g] at O
     replace O:=O.gO A4
     rw [bq]
     exact hO r cC _ A4.box ⟨fun ns j e hj a ad hk A=>ak.mk (O.ok ns j e hj a ad hk A),O.bad⟩
    have pv:tT X.L i 1=decide (kd=1):=by
     unfold tT
     cases ht:X.L[i]? with
     | none=>rw [ht] at e; simp only [pV,List.cons.injEq,AV.int.injEq,true_and] at e; simp [<- e.1]
     | some t=>obtain ⟨_,h2⟩:=fg t ht; rw [h2]; rw [nY]; simp; omega
    rw [fW jn]
    simp only [List.drop,bE,bj,al,aU]
    by_cases h1:kd=1
    . simp only [h1,da,gm,aI,bQ,aC,lr,bH]
      refine oS zo hi 1 (by omega) fun cC e4=>?_
      simp only [bu]
      rw [vZ]
      refine ⟨by omega,?_⟩
      rw [sB (o:=0) (s:=1) rfl]
      refine ⟨⟨rfl,rfl,by simp [bF]⟩,?_⟩
      rw [yQ]
      refine ⟨rfl,_,Ka (c:=.full) (X.L[i+1]?) [bX] (by simp) rfl,?_⟩
      rw [yP]
      simp only [aL,if_true,al]
      cases Tg:cz X.L (i+1) bX with
      | true=>exact yes (by rw [pv]; simp [h1]) Tg _ (.kr zo e4)
      | false=>exact no (by rw [Tg]; simp) _ (.kr zo e4)
    . have XH:(decide (kd=1) == true)=false:=by simp [h1]
      simp only [XH,aI,bV,bq,h1,dN,aL,bJ,if_false,al]
      simp only [beq_true,bV,bq]
      exact no (by rw [pv]; simp [h1]) _ ⟨zo,jk.refl _ _⟩
   cases sb:jv.find? (fun p=>p.1=s) with
   | none =>
     simp only [Option.isSome_none,bV,show (false == true)=false from rfl,aL,bJ,if_false,al,bq]
     exact rest
   | some p =>
     have h3:¬ kd=3:=acK _ True True sb rfl
     simp only [Option.isSome_some,gm,bQ,aC,lr,pI jn,List.drop,fi,bj,h3,dN,aL,if_true,al,bq]
     exact rest
end
end Go.Rip
namespace Go.Rip
open Go.Proofs Go.RowKit
def uY (lev:Nat):List (aQ × Int) :=
 if lev=2 then [(Aw,17)] else if lev=3 then [(wv,18)] else if lev=5 then [(tH,21),(lS,20)] else if lev=6 then [(tF,22),(tG,23)] else if lev=7 then [(tE,24)] else if lev=8 then [(yw,25)] else []
def Tu (lev:Nat):AV:=.eZ ((uY lev).map fun p=>.str p.1) ((uY lev).map fun p=>.int .u8 p.2)
theorem Rv (lev:Nat) (h:lev=2\/lev=3\/lev=5\/lev=6\/lev=7\/lev=8) (U:St):dz (some (.i,185)) (some AV.jq) CA (.int .i64 (lev:Nat)) false U=.val (Tu lev):=by
 rcases h with rfl | rfl | rfl | rfl | rfl | rfl <;> rfl
theorem Rw (lev:Nat) (s:aQ) (U:St):dz (some (.s,5)) (some (AV.int .u8 0)) (Tu lev) (.str s) true U=.val (.aF [.int .u8 (match (uY lev).find? (fun p=>p.1=s) with | some p=>p.2 | none=>0),.bool ((uY lev).find? (fun p=>p.1=s)).isSome]):=by
 have:=tf s (.int .u8 0) ((uY lev).map fun p=>(p.1,AV.int .u8 p.2))
 rw [List.map_map,List.map_map,List.find?_map] at this
 simp only [dz,jb,oG,Tu]
 rw [show ((uY lev).map fun p=>AV.str p.1)=List.map ((fun p:aQ × AV=>AV.str p.1) ∘ fun p=>(p.1,AV.int .u8 p.2)) (uY lev) from rfl,show ((uY lev).map fun p=>AV.int .u8 p.2)=List.map ((fun p:aQ × AV=>p.2) ∘ fun p=>(p.1,AV.int .u8 p.2)) (uY lev) from rfl,this]
 have e:((fun p:aQ × AV=>decide (p.1=s)) ∘ fun p:aQ × Int=>(p.1,AV.int .u8 p.2))=fun p=>decide (p.1=s):=rfl
 rw [e]
 cases (uY lev).find? fun p=>decide (p.1=s) <;> rfl
theorem I6 (L:List Tk) (lev i:Nat):x7 L lev i=((uY lev).find? (fun p=>p.1=qj L[i]?)).map (·.2):=by
 have hw:∀ w:aQ,w ≠ []->cz L i w=decide (w=qj L[i]?):=fun w h=>by rw [Dx h]; simp [eq_comm]
 unfold x7 uY
 rw [hw Aw (by decide),hw wv (by decide),hw lS (by decide),hw tH (by decide),hw tF (by decide),hw tG (by decide),hw tE (by decide),hw yw (by decide)]
 generalize qj L[i]?=s
 repeat' split
 all_goals simp_all
 all_goals (subst_vars; rfl)
section
variable {X:Rx} {ao U:St} {r k i:Nat} {kind:Int} {text:aQ} {n m at_:Int} {l:List Nd} {R:cA->St->Prop} {K':AV->St->Prop} {Kp:AV->St->Prop}
theorem Jd (hr:U.box r=some (rd X i)) (hi:i <= X.L.length) (h:∀ ad,cN U ad->R (.ret (.str (qj X.L[i]?))) ad):ae K 253 [.box r 0] U R:=by
 refine PG ?_
 unfold PF
 refine oS hr hi 0 (by omega) fun aP e1=>?_
 rw [Nat.add_zero]
 have oD:∃ kd s a,pV X.L[i]?=[.int .u8 kd,.str s,.int .i64 a]/\qj X.L[i]?=if kd=3\/kd=4 then s else []:=by
  cases ht:X.L[i]? with
  | none=>exact ⟨0,[],0,rfl,rfl⟩
  | some t =>
    refine ⟨t.k,t.s,t.at_,rfl,?_⟩
    have e3:((t.k:Int)=3)=(t.k=3):=by simp; omega
    have e4:((t.k:Int)=4)=(t.k=4):=by simp; omega
    simp only [qj,e3,e4]
 obtain ⟨kd,s,a,e,hsg⟩:=oD
 rw [e]
 rw [hsg] at h
 simp only [bu,ju]
 intro b hb
 have e2:=e1.new (x:=.box [AV.int .u8 0,AV.str [],AV.int .i64 0]) hb
 rw [show NV.at b .box=AV.box b 0 from rfl,cX aK]
 refine ⟨⟨rfl,rfl,by simp⟩,?_⟩
 have e3:=e2.set (x:=.box (aB [AV.int .u8 0,AV.str [],AV.int .i64 0] 0 (au (.agg [.int .u8 kd,.str s,.int .i64 a])))) (e1.fresh hb.1)
 generalize om:(aP.new b (.box [AV.int .u8 0,AV.str [],AV.int .i64 0])).set b (.box (aB [AV.int .u8 0,AV.str [],AV.int .i64 0] 0 (au (.agg [.int .u8 kd,.str s,.int .i64 a]))))=bZ at e3 ⊢
 have jn:bZ.box b=some [.int .u8 kd,.str s,.int .i64 a]:=by rw [<- om,aW]; rfl
 simp only [bg,al,fW jn,List.drop,bE,cV,bj,aU,aI,pJ,bQ]
 by_cases h3:kd=3
 . subst h3
   simp [fW jn,bE]
   exact ak.mk (h _ e3)
 . by_cases h4:kd=4
   . subst h4
     simp [fW jn,pI jn,bE]
     exact ak.mk (h _ e3)
   . simp [fW jn,pI jn,bE,h3,h4]
     refine ak.mk ?_
     have:=h _ e3
     rw [if_neg (by omega)] at this
     exact this
theorem PQ (S:Sk X ao r k i kind text n m at_ l U) (aO:i < X.L.length) {bt:BT} {lit:Bool} (h:∀ ad,Sk X ao r k (i+1) kind text n m at_ l ad->K' (.aF []) ad) :
 (ah (some (false,1)) (.box r 1) U).wp K U (fun v U=>(ar .add bt lit v (.int .i64 1)).wp K U (fun v U=>(aJ (some (false,1)) (.box r 1) v U).wp K U K' Kp) Kp) Kp:=by
 have hs:=X.small
 have hr:=S.A.box
 simp only [fW hr,rd,List.drop,bE,dr]
 refine ⟨bw (by omega) (by omega),?_⟩
 rw [cX hr]
 refine ⟨⟨rfl,rfl,by simp [rd]⟩,h _ (S.gO (j:=i+1) ⟨?_,(jk.refl r U).set (.inr rfl)⟩ aO (by omega))⟩
 rw [aW]; simp [aB,rd]
theorem eK.ne_nil:∀ {b:Bool} {ks:List AV} {l:List Nd},eK b ks l->b=true->l=[]->ks=[]:=by
 have h1:∀ {b:Bool} {ks:List AV} {l:List Nd},eK b ks l->b=false->l ≠ []:=fun h e=>by
  cases h with
  | mk _ _=>simp [node]
  | nil=>cases e
  | cons _ _=>cases e
 intro b ks l h e hl
 cases h with
 | mk _ _=>cases e
 | nil=>rfl
 | cons a c=>exact absurd (List.append_eq_nil_iff.1 hl).1 (h1 a rfl)
theorem eK.cQ {a:AV} {ns:List Nd} (hk:eK false [a] ns):a.cQ=true/\au a=[a]:=by
 generalize hb:false=b at hk
 generalize hl:[a]=la at hk
 cases hk with
 | mk _ _=>cases hl; exact ⟨rfl,rfl⟩
 | nil=>cases hl
 | cons _ _=>cases hb
theorem GW {a:AV} {ns:List Nd} (S:Sk X ao r k i kind text n m at_ [] U) (hk:eK false [a] ns) (h:∀ a' ad,eK false [a'] (node kind text n m at_ ns)->fH r (rd X i) ao ad->K' a' ad) :
 (aq (some (87,1)) (some [AV.aV]) 1 false [(0,a)]).wp K U (fun v U=>ae K 103 [.box k 0,v] U (ag K' Kp)) Kp:=by
 obtain ⟨ks,h1,h2,h3⟩:=S.M
 have:=h2.ne_nil rfl rfl
 subst this
 rw [fN]
 refine ⟨by omega,?_⟩
 rw [ek (o:=0) (s:=1) rfl]
 refine ⟨⟨hk.cQ.1,by rw [hk.cQ.2]; rfl,by simp [bF]⟩,?_⟩
 rw [gI,hk.cQ.2]
 refine ⟨rfl,?_⟩
 exact Jl (l2:=[a]) h1 S.A (by omega) rfl (by simp) fun ad M A=>M.done (h2.snoc hk) A fun a' ad hk A=>h a' ad hk A
theorem Sc {a b:AV} {ns ms:List Nd} (S:Sk X ao r k i kind text n m at_ [] U) (hk:eK false [a] ns) (fD:eK false [b] ms) (h:∀ a' ad,eK false [a'] (node kind text n m at_ (ns++ms))->fH r (rd X i) ao ad->K' a' ad) :
 (aq (some (87,1)) (some [AV.aV]) 2 false [(0,a),(1,b)]).wp K U (fun v U=>ae K 103 [.box k 0,v] U (ag K' Kp)) Kp:=by
 obtain ⟨ks,h1,h2,h3⟩:=S.M
 have:=h2.ne_nil rfl rfl
 subst this
 rw [fN]
 refine ⟨by omega,?_⟩
 rw [ek (o:=0) (s:=1) rfl]
 refine ⟨⟨hk.cQ.1,by rw [hk.cQ.2]; rfl,by simp [bF]⟩,?_⟩
 rw [hk.cQ.2]
 rw [ek (o:=1) (s:=1) rfl]
 refine ⟨⟨fD.cQ.1,by rw [fD.cQ.2]; rfl,by simp [bF,aB]⟩,?_⟩
 rw [gI,fD.cQ.2]
 refine ⟨rfl,?_⟩
 exact Jl (l2:=[a,b]) h1 S.A (by omega) rfl (by simp) fun ad M A=>M.done (by simpa using (h2.snoc hk).snoc fD) A fun a' ad hk A=>h a' ad hk A
def EO (X:Rx) (fu:Nat):Prop:=∀ f',f' <= fu->∀ j lev,j <= X.L.length->2 <= lev->lev <= 9->40 * (X.L.length - j)+(11 - lev) <= f'->Co X j lev (ku X.L X.E f' lev j)/\Gd X.L.length (j+1) j (ku X.L X.E f' lev j)
theorem Vh {fu lev:Nat} (hi:i <= X.L.length) (h2:2 <= lev) (h9:lev <= 9) (hf:40 * (X.L.length - i)+(11 - lev) <= fu+1) (hA:lev=9->Ct X 252 i (vn X.L X.E fu i)) (hS:EO X fu):Co X i lev (ku X.L X.E (fu+1) lev i):=by
 intro r U R hr O
 refine Pf ?_
 unfold Pe
 have hs:=X.small
 simp only [bj,al,bR]
 refine ⟨fun e9=>?_,fun n9=>⟨fun e4=>?_,fun n4=>?_⟩⟩
 . have e9:lev=9:=by omega
   rw [ku,if_pos e9] at O
   exact CL (hA e9) hr O
 . have e4:lev=4:=by omega
   have n9:¬ lev=9:=by omega
   rw [ku,if_neg n9,if_pos e4] at O
   refine gZ hr hi fun k aP S=>?_
   refine BJ S (fun hw aZ S=>?_) fun hw aZ S=>?_
   . rw [if_pos hw] at O
     simp only [bH]
     have aO:=dy hw
     obtain ⟨g1,g2⟩:=hS fu (dk _) (i+1) 4 aO (by omega) (by omega) (by omega)
     refine g1 r aZ _ S.A.box ⟨fun ns j e hj a ad hk A=>?_,fun j e ad A=>O.bad j (by rw [e]; rfl) ad (S.A.trans A)⟩
     rw [e] at g2 O
     have fJ:i+1 < j:=g2.1
     refine GW (S.gO A hj (by omega)) hk fun a' ad Di A'=>?_
     exact ak.mk (O.ok _ _ rfl hj a' ad Di A')
   . rw [if_neg (by rw [hw]; simp)] at O
     simp only [bq,dr]
     refine ⟨bw (by omega) (by omega),?_⟩
     obtain ⟨g1,g2⟩:=hS fu (dk _) i 5 hi (by omega) (by omega) (by omega)
     subst e4
     refine g1 r aZ _ S.A.box ?_
     replace O:=O.gO S.A
     exact ⟨fun ns j e hj a ad hk A=>ak.mk (O.ok ns j e hj a ad hk A),O.bad⟩
 . have n9:¬ lev=9:=by omega
   have n4:¬ lev=4:=by omega
   rw [ku,if_neg n9,if_neg n4] at O
   rw [dr]
   refine ⟨bw (by omega) (by omega),?_⟩
   obtain ⟨g1,g2⟩:=hS fu (dk _) i (lev+1) hi (by omega) (by omega) (by omega)
   rw [show ((lev:Nat):Int)+1=((lev+1:Nat):Int) by omega]
   refine g1 r U _ hr ⟨fun ns j e hj a aP hk A=>?_,fun j e ad A=>O.bad j (by rw [e]; rfl) ad A⟩
   rw [e] at g2 O
   have fJ:i < j:=g2.1
   replace O:Out X r aP R (tZ X.L X.E fu lev ns j):=Out.gO O A
   refine ⟨fun mm v0 v1 v6 ad=>∃ left j f',mm=X.L.length - j/\v0=.box r 0/\v1=.int .i64 (lev:Nat)/\j <= X.L.length/\i < j/\40 * (X.L.length - j)+1 <= f'/\f' <= fu/\eK false [v6] left/\ad.box r=some (rd X j)/\Out X r ad R (tZ X.L X.E f' lev left j),
    ⟨_,ns,j,fu,rfl,rfl,rfl,hj,fJ,by omega,dk _,hk,A.box,O⟩,?_⟩
   clear hk A O fJ hj e g1 g2
   rintro mm v0 v1 v6 aZ ⟨left,j,f',rfl,rfl,rfl,hj,fJ,SN,FE,hk,sh,O⟩
   cases f' with
   | zero=>omega
   | succ f' =>
     rw [tZ,I6] at O
     simp only [bU,aC,bg,cV,pI sh,rd,List.drop,fi,Rv lev (by omega)]
     refine Jd sh hj fun bZ e3=>?_
     simp only [bu]
     refine ⟨?_,?_,?_⟩
     . intro b hb
       simp only [cM,CA,kK,ia,jg,cD,List.not_mem_nil,or_false] at hb
       subst hb
       cases e:aZ.live b with
       | none=>exact absurd e (bG sh)
       | some x=>exact e3 b x e
     . intro b hb
       simp [cM,Tu] at hb
     simp only [Rw,aC,bB,List.drop,fi,dR,al]
     have A3:fH r (rd X j) aZ bZ:=.kr sh e3
     cases hop:(uY lev).find? fun p=>p.1=qj X.L[j]? with
     | none =>
       rw [hop] at O
       simp only [Option.isSome_none,eA,bH]
       exact ak.mk (O.ok _ _ rfl hj _ bZ hk A3)
     | some p =>
       rw [hop] at O
       replace O:=O.gO A3
       simp only [Option.isSome_some,cI,bq]
       have aO:j < X.L.length:=I7 (lev:=lev) (k:=p.2) (by rw [I6,hop]; rfl)
       refine gZ A3.box hj fun k cC S=>?_
       simp only [bU,al,bg,cV]
       refine PQ S aO fun dm S=>?_
       simp only [bj,al,bR]
       simp only [Option.map_some] at O
       refine ⟨fun e8=>?_,fun n8=>?_⟩
       . have e8:lev=8:=by omega
         rw [if_pos e8] at O
         refine qJ S O fun x mi S O=>KX S fun iw S=>?_
         have jA:=S.hi
         refine GW S hk fun a' ad Di A'=>?_
         exact ⟨_,by omega,_,j+1+1,f',rfl,rfl,rfl,S.hi,by omega,by omega,by omega,Di,A'.box,O.gO A'⟩
       . have n8:¬ lev=8:=by omega
         rw [if_neg n8] at O
         simp only [dr]
         refine ⟨bw (by omega) (by omega),?_⟩
         obtain ⟨g1,g2⟩:=hS f' (by omega) (j+1) (lev+1) aO (by omega) (by omega) (by omega)
         rw [show ((lev:Nat):Int)+1=((lev+1:Nat):Int) by omega]
         refine g1 r dm _ S.A.box ⟨fun ns j2 e sd b mi hkb A=>?_,fun j e ad A=>O.bad j (by rw [e]; rfl) ad (S.A.trans A)⟩
         rw [e] at g2 O
         have Cm:j+1 < j2:=g2.1
         refine Sc (S.gO A sd (by omega)) hk hkb fun a' ad Di A'=>?_
         replace O:Out X r bZ R (if lev=5 then .ok (node p.2 [] 0 0 (fp X.L X.E j) (left++ns)) j2 else tZ X.L X.E f' lev (node p.2 [] 0 0 (fp X.L X.E j) (left++ns)) j2):=O
         refine ⟨fun e5=>?_,fun n5=>?_⟩
         . rw [if_pos (by omega)] at O
           exact ak.mk (O.ok _ _ rfl sd a' ad Di A')
         . rw [if_neg (by omega)] at O
           exact ⟨_,by omega,_,j2,f',rfl,rfl,rfl,sd,by omega,by omega,by omega,Di,A'.box,O.gO A'⟩
end
end Go.Rip
namespace Go.Rip
open Go.Proofs Go.RowKit
theorem eK.size {a:AV} {l:List Nd} (h:eK false [a] l):∃ x r,l=x::r/\x.size=(l.length:Int):=by
 generalize hb:false=b at h
 generalize hl:[a]=la at h
 cases h with
 | mk _ _=>exact ⟨_,_,rfl,by simp [node]⟩
 | nil=>cases hl
 | cons _ _=>cases hb
theorem eK.count:∀ {ks ks':List AV} {l:List Nd},eK true ks l->eK true ks' l->ks.length=ks'.length
 | [],ks',l,h,h'=>by
   have:l=[]:=by
    generalize hb:true=b at h
    generalize hl:([]:List AV)=la at h
    cases h with
    | mk _ _=>cases hb
    | nil=>rfl
    | cons _ _=>cases hl
   rw [h'.ne_nil rfl this]
 | a::ks,ks',l,h,h'=>by
   generalize hb:true=b at h
   generalize hl:a::ks=la at h
   cases h with
   | mk _ _=>cases hb
   | nil=>cases hl
   | @cons a1 ks1 l1 l2 h1 h2 =>
     cases hl
     obtain ⟨x,r,e1,e2⟩:=h1.size
     generalize Mr:l1++l2=ll at h'
     generalize eH:true=b' at h'
     cases h' with
     | mk _ _=>cases eH
     | nil=>rw [e1] at Mr; cases Mr
     | @cons a3 ks3 l3 l4 h3 h4 =>
       obtain ⟨y,r',e3,e4⟩:=h3.size
       have MC:x=y:=by rw [e1,e3] at Mr; simpa using congrArg List.head? Mr
       have hlen:l1.length=l3.length:=by rw [MC] at e2; omega
       obtain ⟨_,h24⟩:=List.append_inj Mr hlen
       subst h24
       simp [eK.count h2 h4]
section
variable {X:Rx} {ao U:St} {r k i:Nat} {kind:Int} {text:aQ} {n m at_:Int} {l:List Nd} {R:cA->St->Prop} {K':AV->St->Prop} {Kp:AV->St->Prop} {w:aQ}
theorem Sd {q:Unit->Nat->PR (List Nd)} (hr:U.box r=some (rd X i)) (hi:i <= X.L.length) (O:Out X r U R ((cT X.L w i).bind q)) (h:∀ ad,i+1 <= X.L.length->fH r (rd X (i+1)) U ad->Out X r ad R (q () (i+1))->K' (.aF []) ad):ae K 102 [.box r 0,.str w] U (ag K' (aa R)) :=
 Cw hr hi w (fun e hl ad A=>h ad hl A (by rw [e] at O; exact Out.gO O A)) fun e ad A=>O.bad _ (by rw [e]; rfl) _ A
theorem CM (S:Sk X ao r k i kind text n m at_ l U) (hb:cz X.L i w=true) (h:∀ ad,Sk X ao r k (i+1) kind text n m at_ l ad->K' (.aF []) ad):ae K 102 [.box r 0,.str w] U (ag K' Kp) :=
 Cw S.A.box S.hi w (fun e hl ad A=>h ad (S.gO A hl (by omega))) fun e ad A=>by simp [cT,hb] at e
structure Below (X:Rx) (fu:Nat):Prop where
 term:∀ f',f' <= fu->∀ j,j <= X.L.length->40 * (X.L.length - j)+11 <= f'->Ct X 109 j (rJ X.L X.E f' j)
 first:∀ f',f' <= fu->∀ j,j <= X.L.length->40 * (X.L.length - j)+10 <= f'->Ct X 169 j (cB X.L X.E f' j)
 oper:∀ f',f' <= fu->∀ j lev,j <= X.L.length->2 <= lev->lev <= 9->40 * (X.L.length - j)+(11 - lev) <= f'->Co X j lev (ku X.L X.E f' lev j)
 atom:∀ f',f' <= fu->∀ j,j <= X.L.length->40 * (X.L.length - j)+1 <= f'->Ct X 252 j (vn X.L X.E f' j)
 arg:∀ f',f' <= fu->∀ j,j <= X.L.length->40 * (X.L.length - j)+12 <= f'->Ct X 269 j (nR X.L X.E f' j)
theorem Below.LZ {fu i:Nat} (B:Below X fu) (hf:40 * (X.L.length - i)+10 <= fu+40):gN X fu i:=fun j hj fJ =>
 ⟨B.first fu (dk _) j hj (by omega),(Cj fu).2.2.1 j hj (by omega)⟩
theorem Below.ops {fu:Nat} (B:Below X fu):EO X fu:=fun f' hf j lev hj h2 h9 he=>⟨B.oper f' hf j lev hj h2 h9 he,(Cj f').2.2.2.1 j lev hj h9 he⟩
theorem Up {fu:Nat} (B:Below X fu) (he:40 * (X.L.length - i)+12 <= fu) {q:List Nd->Nat->PR (List Nd)} (S:Sk X ao r k i kind text n m at_ l U) (O:Out X r ao R ((nR X.L X.E fu i).bind fun a j=>(rn X.L X.E fu a j).bind q))
 (h:∀ ns j ad,j <= X.L.length->i < j->Sk X ao r k j kind text n m at_ (l++ns) ad->Out X r ao R (q ns j)->K' (.aF []) ad):ae K 106 [.box r 0,.box k 0,.func (.func 269) [.box r 0] []] U (ag K' (aa R)):=by
 refine DS ?_
 unfold GM
 have kO:dU K.P 269=true:=by kernel_rfl
 rw [EK kO (c:=[])]
 simp only [By]
 have C:∀ f',f' <= fu->∀ j,j <= X.L.length->40 * (X.L.length - j)+12 <= f'->Ct X 269 j (nR X.L X.E f' j)/\Gd X.L.length (j+1) j (nR X.L X.E f' j):=fun f' h1 j h2 h3=>⟨B.arg f' h1 j h2 h3,(Cj f').2.2.2.2.2.2.2 j h2 h3⟩
 obtain ⟨c1,c2⟩:=C fu (dk _) i S.hi he
 refine lO S c1 c2 O fun ns j aP hj fJ S1 O1=>?_
 refine ⟨fun mm v0 v1 v2 ad=>∃ acc j f',mm=X.L.length - j/\v0=.box r 0/\v1=.box k 0/\v2=.func (.func 269) [.box r 0] []/\j <= X.L.length/\i < j/\40 * (X.L.length - j)+1 <= f'/\f' <= fu/\Sk X ao r k j kind text n m at_ (l++acc) ad/\Out X r ao R ((rn X.L X.E f' acc j).bind q),
  ⟨_,ns,j,fu,rfl,rfl,rfl,rfl,hj,fJ,by omega,dk _,S1,O1⟩,?_⟩
 rintro mm v0 v1 v2 aZ ⟨acc,j2,f',rfl,rfl,rfl,rfl,sd,Cm,FE,hf3,S2,O2⟩
 cases f' with
 | zero=>omega
 | succ f' =>
   rw [rn] at O2
   refine BJ S2 (fun hw bZ S3=>?_) (fun hw bZ S3=>?_)
   . simp only [bH]
     rw [if_pos hw] at O2
     have aO:=dy hw
     rw [EK kO (c:=[])]
     have e2:((nR X.L X.E f' (j2+1)).bind fun b j=>rn X.L X.E f' (acc++b) j).bind q=(nR X.L X.E f' (j2+1)).bind fun b j=>(rn X.L X.E f' (acc++b) j).bind q:=by
      cases nR X.L X.E f' (j2+1) <;> rfl
     rw [e2] at O2
     obtain ⟨c1,c2⟩:=C f' (by omega) _ aO (by omega)
     refine lO S3 c1 c2 O2 fun YO j3 cC X2 ac3 S4 O4=>?_
     exact ⟨_,by omega,acc++YO,j3,f',rfl,rfl,rfl,rfl,X2,by omega,by omega,by omega,by rw [<- iM]; exact S4,O4⟩
   . simp only [bq]
     rw [if_neg (by rw [hw]; simp)] at O2
     exact ak.mk (h acc j2 bZ sd Cm S3 O2)
theorem W8 {fu:Nat} (B:Below X fu) (hi:i <= X.L.length) (he:40 * (X.L.length - i)+12 <= fu+1):Ct X 269 i (nR X.L X.E (fu+1) i):=by
 intro r U R hr O
 refine PI ?_
 unfold PH
 rw [nR] at O
 have hs:=X.small
 have hF:=B.LZ (i:=i) (by omega)
 refine PT hr hi fun b aP hb A1=>?_
 replace O:=O.gO A1
 cases b with
 | true =>
   simp only [bH]
   rw [if_pos hb] at O
   refine gZ A1.box hi fun k aZ S=>?_
   refine CM S hb fun bZ S=>eY S O fun bZ S O=>?_
   refine UU (by kernel_rfl) (fun i hi=>Ig hi) (fun i hi=>vo hi) (by omega) (by omega) S O fun ns j cC hj fJ S O=>?_
   refine eY S O fun dm S O=>?_
   exact kL hF (by omega) S O fun ns j dm hj fJ S O=>fE S O
 | false =>
   simp only [bq]
   rw [if_neg (by rw [hb]; simp)] at O
   refine PT A1.box hi fun b2 aZ fY A2=>?_
   replace O:=O.gO A2
   cases b2 with
   | true =>
     simp only [bH]
     rw [if_pos fY] at O
     refine gZ A2.box hi fun k aZ S=>?_
     refine CM S fY fun bZ S=>eY S O fun bZ S O=>?_
     refine kL hF (by omega) S O fun ns j dm hj fJ S O=>eY S O fun _ S O=>eY S O fun _ S O=>?_
     refine lO S (Ig S.hi) (vo S.hi) O fun ns j dm hj fJ S O=>eY S O fun _ S O=>?_
     exact kL hF (by omega) S O fun ns j dm hj fJ S O=>eY S O fun _ S O=>fE S O
   | false =>
     simp only [bq]
     rw [if_neg (by rw [fY]; simp)] at O
     exact CL (B.term fu (dk _) i hi (by omega)) A2.box O
end
end Go.Rip
namespace Go.Rip
open Go.Proofs Go.RowKit
theorem fK {U:St} {b:Nat} {ks vs:List AV}:(U.set b (.mp ks vs)).mp b=some (ks,vs):=by simp [St.mp,cR]
theorem ti {U:St} {b:Nat} {ks vs:List AV}:(U.new b (.mp ks vs)).mp b=some (ks,vs):=by simp [St.mp,kH]
theorem Kw {U ad:St} {b:Nat} (h:ad.live b=U.live b):ad.mp b=U.mp b:=by simp [St.mp,h]
theorem cN.mp {U ad:St} {b:Nat} {x:List AV × List AV} (h:cN U ad) (k:U.mp b=some x):ad.mp b=some x:=by
 cases e:U.live b with
 | none=>simp [St.mp,e] at k
 | some y=>rw [Kw ((h b y e).trans e.symm)]; exact k
theorem vd {C:cq} {U:St} {K':AV->St->Prop} {Kp:AV->St->Prop} {m:Nat} {ks vs ks' vs':List AV} {s:aQ} {v:AV} {t:TypeId} (h:U.mp m=some (ks,vs)) (hf:kj .s (.str s) ks 0=some none) (hi:fR (.str s) v ks vs=(ks',vs')) :
 (dp (some (.s,t)) (.mp m) (.str s) v U).wp C U K' Kp=K' (.aF []) (U.set m (.mp ks' vs')):=by
 simp only [dp,h,hf,oG,hi]; rfl
def qz:List (aQ × Int):=[(oK,32),(dC,28),(gY,30),(mg,31),(fA,29),(du,27)]
theorem Ur (s:aQ) {U:St} {m:Nat} (h:U.mp m=some (qz.map fun p=>.str p.1,qz.map fun p=>.int .u8 p.2)):dz (some (.s,5)) (some (AV.int .u8 0)) (.mp m) (.str s) true U=.val (.aF [.int .u8 (match qz.find? (fun p=>p.1=s) with | some p=>p.2 | none=>0),.bool (qz.find? (fun p=>p.1=s)).isSome]):=by
 have:=tf s (.int .u8 0) (qz.map fun p=>(p.1,AV.int .u8 p.2))
 rw [List.map_map,List.map_map,List.find?_map] at this
 simp only [dz,jb,oG,h]
 rw [show (qz.map fun p=>AV.str p.1)=List.map ((fun p:aQ × AV=>AV.str p.1) ∘ fun p=>(p.1,AV.int .u8 p.2)) qz from rfl,show (qz.map fun p=>AV.int .u8 p.2)=List.map ((fun p:aQ × AV=>p.2) ∘ fun p=>(p.1,AV.int .u8 p.2)) qz from rfl,this]
 have e:((fun p:aQ × AV=>decide (p.1=s)) ∘ fun p:aQ × Int=>(p.1,AV.int .u8 p.2))=fun p=>decide (p.1=s):=rfl
 rw [e]
 cases qz.find? fun p=>decide (p.1=s) <;> rfl
section
variable {X:Rx} {ao U:St} {r k i:Nat} {kind:Int} {text:aQ} {n m at_:Int} {l:List Nd} {R:cA->St->Prop} {K':AV->St->Prop} {Kp:AV->St->Prop} {w:aQ}
theorem Us {fu:Nat} (B:Below X fu) (hi:i <= X.L.length) (he:40 * (X.L.length - i)+1 <= fu+1):Ct X 252 i (vn X.L X.E (fu+1) i):=by
 intro r U R hr O
 refine PE ?_
 unfold PD
 have hs:=X.small
 rw [ju]
 intro mm qE
 have e1:cN U (U.new mm (.mp [] [])):=(cN.refl U).new qE
 have hn:=qE.1
 rw [show NV.at mm .mp=AV.mp mm from rfl]
 generalize Q4:U.new mm (.mp [] [])=aP at e1 ⊢
 have m1:aP.mp mm=some ([],[]):=by rw [<- Q4]; exact ti
 rw [vd (ks':=[.str du]) (vs':=[.int .u8 27]) m1 rfl rfl]
 rw [vd (ks':=[.str dC,.str du]) (vs':=[.int .u8 28,.int .u8 27]) fK rfl rfl]
 rw [vd (ks':=[.str dC,.str fA,.str du]) (vs':=[.int .u8 28,.int .u8 29,.int .u8 27]) fK rfl rfl]
 rw [vd (ks':=[.str dC,.str gY,.str fA,.str du]) (vs':=[.int .u8 28,.int .u8 30,.int .u8 29,.int .u8 27]) fK rfl rfl]
 rw [vd (ks':=[.str dC,.str gY,.str mg,.str fA,.str du]) (vs':=[.int .u8 28,.int .u8 30,.int .u8 31,.int .u8 29,.int .u8 27]) fK rfl rfl]
 rw [vd (ks':=[.str oK,.str dC,.str gY,.str mg,.str fA,.str du]) (vs':=[.int .u8 32,.int .u8 28,.int .u8 30,.int .u8 31,.int .u8 29,.int .u8 27]) fK rfl rfl]
 have e2:=(((((e1.set (x:=.mp [.str du] [.int .u8 27]) hn).set (x:=.mp [.str dC,.str du] [.int .u8 28,.int .u8 27]) hn).set (x:=.mp [.str dC,.str fA,.str du] [.int .u8 28,.int .u8 29,.int .u8 27]) hn).set (x:=.mp [.str dC,.str gY,.str fA,.str du] [.int .u8 28,.int .u8 30,.int .u8 29,.int .u8 27]) hn).set (x:=.mp [.str dC,.str gY,.str mg,.str fA,.str du] [.int .u8 28,.int .u8 30,.int .u8 31,.int .u8 29,.int .u8 27]) hn).set (x:=.mp [.str oK,.str dC,.str gY,.str mg,.str fA,.str du] [.int .u8 32,.int .u8 28,.int .u8 30,.int .u8 31,.int .u8 29,.int .u8 27]) hn
 generalize Q5:((((((aP.set mm (.mp [.str du] [.int .u8 27])).set mm _).set mm _).set mm _).set mm _).set mm _)=aZ at e2 ⊢
 have m2:aZ.mp mm=some (qz.map fun p=>.str p.1,qz.map fun p=>.int .u8 p.2):=by rw [<- Q5]; exact fK
 have sh:=e2.aS hr
 refine Jd sh hi fun bZ e3=>?_
 simp only [bu,Ur _ (e3.mp m2),al,bB,List.drop,bE]
 have A3:fH r (rd X i) U bZ:=.kr hr (e2.trans e3)
 replace O:=O.gO A3
 have hw:∀ w:aQ,w ≠ []->cz X.L i w=decide (w=qj X.L[i]?):=fun w h=>by rw [Dx h]; simp [eq_comm]
 rw [vn,hw du (by decide),hw dC (by decide),hw fA (by decide),hw gY (by decide),hw mg (by decide),hw oK (by decide)] at O
 simp only [dI] at O
 cases Df:qz.find? fun p=>p.1=qj X.L[i]? with
 | some p =>
   simp only [Option.isSome_some,bH]
   have hp:p ∈ qz:=List.mem_of_find?_eq_some Df
   have Mx:p.1=qj X.L[i]?:=by simpa using List.find?_some Df
   have bT:p.1 ≠ []:=by
    have:∀ p ∈ qz,p.1 ≠ []:=by decide
    exact this p hp
   have aO:i < X.L.length:=dy (w:=p.1) (by rw [hw _ bT,Mx]; simp)
   refine gZ A3.box hi fun k cC S=>?_
   simp only [bU,al,bg,cV]
   refine PQ S aO fun dm S=>?_
   intro j hj
   simp only [bj,al,aU,aI,pJ,bQ]
   rw [<- Mx] at O
   simp only [qz,cD,List.not_mem_nil,or_false] at hp
   have t1:(oK=du)=False:=by simp; decide
   rcases hp with rfl | rfl | rfl | rfl | rfl | rfl
   . simp (decide:=true) only [if_false,if_true] at O
     simp (decide:=true) [bH]
     exact pb S O fun x _ S O=>pc S fun _ S=>hj _ _ (fE S O)
   . simp (decide:=true) only [if_false,if_true] at O
     simp (decide:=true) [bq]
     exact hj _ _ (fE S O)
   . simp (decide:=true) only [if_false,if_true] at O
     simp (decide:=true) [bq]
     exact hj _ _ (fE S O)
   . simp (decide:=true) only [if_false,if_true] at O
     simp (decide:=true) [bH]
     exact pb S O fun x _ S O=>pc S fun _ S=>hj _ _ (fE S O)
   . simp (decide:=true) only [if_false,if_true] at O
     simp (decide:=true) [bq]
     exact hj _ _ (fE S O)
   . simp (decide:=true) only [if_false,if_true] at O
     simp (decide:=true) [bq]
     exact hj _ _ (fE S O)
 | none =>
   simp only [Option.isSome_none,bq]
   have hX:∀ w ∈ qz.map (·.1),¬ w=qj X.L[i]?:=fun w hw e=>by
    rw [List.find?_eq_none] at Df
    obtain ⟨p,hp,rfl⟩:=List.mem_map.1 hw
    simpa [e] using Df p hp
   rw [if_neg (hX _ (by decide)),if_neg (hX _ (by decide)),if_neg (hX _ (by decide)),if_neg (hX _ (by decide)),if_neg (hX _ (by decide)),if_neg (hX _ (by decide))] at O
   refine Gl A3.box hi fy (fun hb cC A4=>?_) (fun hb cC e4=>?_)
   . simp only [bu,bH]
     rw [if_pos hb] at O
     have aO:=dy hb
     replace O:=O.gO A4
     have g2:=(Cj (L:=X.L) (E:=X.E) fu).1 (i+1) aO (by omega)
     refine B.term fu (dk _) (i+1) aO (by omega) r cC _ A4.box ⟨fun ns j e hj a ad hk A=>?_,fun j e ad A=>O.bad j (by rw [e]; rfl) ad A⟩
     rw [e] at O
     refine Sd A.box hj (Out.gO O A) fun dm hj5 A5 O=>?_
     exact ak.mk (O.ok _ _ rfl hj5 a dm hk ⟨A5.box,jk.refl _ _⟩)
   . simp only [bu,bq]
     rw [if_neg (by rw [hb]; simp)] at O
     have A4:fH r (rd X i) bZ cC:=.kr A3.box e4
     replace O:=O.gO A4
     refine oS A4.box hi 0 (by omega) fun dm e5=>?_
     rw [Nat.add_zero]
     have A5:fH r (rd X i) cC dm:=.kr A4.box e5
     replace O:=O.gO A5
     obtain ⟨kd,s,a,e,hm⟩:=tA X.L[i]?
     rw [e]
     simp only [bu,JF,List.drop,bE,bj,al,bR]
     have fD:tT X.L i 2=true ↔ kd=2:=by
      refine Iff.trans ?_ (hm 2 (by omega)).symm
      unfold tT
      cases ht:X.L[i]? with
      | none=>simp
      | some t =>
        rw [ht] at e; simp only [pV,oy,List.cons.injEq,AV.str.injEq,true_and] at e
        simp [e.2.1]
     refine ⟨fun h2=>?_,fun h2=>?_⟩
     . rw [if_pos (fD.2 h2)] at O
       refine gZ A5.box hi fun k mi S=>?_
       simp only [bU,al,bg,cV]
       exact qJ S O fun x _ S O=>KX S fun _ S=>fE S O
     . rw [if_neg (fun h=>h2 (fD.1 h))] at O
       refine gZ A5.box hi fun k mi S=>?_
       simp only [bU,al,bg,cV]
       refine pb S O fun x _ S O=>pc S fun _ S=>?_
       intro j hj
       refine BJ S (fun hw iw S=>?_) fun hw iw S=>?_
       . simp only [bH]
         rw [if_pos hw] at O
         have hh:=S.hi
         refine Vv S fun _ S=>Up B (by omega) S O fun ns j2 tJ sd Cm S O=>?_
         exact eY S O fun _ S O=>hj _ _ (fE S O)
       . simp only [bq]
         rw [if_neg (by rw [hw]; simp)] at O
         exact hj _ _ (fE S O)
end
end Go.Rip
namespace Go.Rip
open Go.Proofs Go.RowKit
section
variable {X:Rx} {ao U:St} {r k i:Nat} {kind:Int} {text:aQ} {n m at_:Int} {l:List Nd} {R:cA->St->Prop} {K':AV->St->Prop} {Kp:AV->St->Prop} {w:aQ}
theorem Vu {a:AV} {ns:List Nd} (S:Sk X ao r k i kind text n m at_ [] U) (hi:1 <= i) (hk:eK false [a] ns) (h:∀ ad,Sk X ao r k i kind text n m at_ ns ad->K' (.box k 0) ad) :
 (aq (some (87,1)) (some [AV.aV]) 1 false [(0,a)]).wp K U (fun v U=>ae K 103 [.box k 0,v] U (ag K' (aa R))) (aa R) :=
 GV S (fun ks h1 h2 h3=>⟨ks,h1,h2,by rw [h2.ne_nil rfl rfl]; simpa using hi⟩) hk fun ad S=>h ad (by simpa using S)
theorem QO {U:St} {v:AV} {e sz n:Nat} {l:List AV} (h:Grow U v e sz n l):cj (some false) v=.val (.int .i64 n):=by
 rcases h with ⟨rfl,rfl,rfl⟩ | ⟨τ,rfl,_⟩ <;> rfl
theorem Vy {fu:Nat} (B:Below X fu) (hi:i <= X.L.length) (he:40 * (X.L.length - i)+11 <= fu+1):Ct X 109 i (rJ X.L X.E (fu+1) i):=by
 intro r U R hr O
 refine NO ?_
 unfold NN
 have hs:=X.small
 rw [rJ] at O
 have g:=(Cj (L:=X.L) (E:=X.E) fu).2.2.1 i hi (by omega)
 refine B.first fu (dk _) i hi (by omega) r U _ hr ⟨fun ns j e hj a aP hk A1=>?_,fun j e ad A=>O.bad j (by rw [e]; rfl) ad A⟩
 rw [e] at O g
 have fJ:i < j:=g.1
 have O1:Out X r aP R (Aq X.L X.E fu (fp X.L X.E j) ns 1 j):=Out.gO O A1
 clear O e g
 refine gZ A1.box hj fun k aZ S=>?_
 refine Vu S (by omega) hk fun bZ S=>?_
 intro jj zk
 have fin:∀ (acc:List Nd) (many q:Nat) (ad:St),Sk X aP r k q 9 [] 0 0 (fp X.L X.E j) acc ad->(∃ ks,eK true ks acc/\ks.length=many)->(many=1->acc=ns)->Out X r aP R (.ok (if many=1 then acc else node 9 [] 0 0 (fp X.L X.E j) acc) q)->jj a (.box k 0) ad:=by
  intro acc many q ad S ⟨ks0,A8,uM⟩ h1 O
  refine zk _ _ _ ?_
  have hq':=S.hi
  have hA':=S.A
  obtain ⟨ks,M,hkr,hle⟩:=S.M
  have hl:ks.length=many:=(hkr.count A8).trans uM
  obtain ⟨kv,b1,b2,b3,b4⟩:=M.box
  simp only [bU,al,bg,cV,fW b1,ta,List.drop,bE,QO b2,bj,bR,hl]
  refine ⟨fun h=>?_,fun h=>?_⟩
  . have h:many=1:=by omega
    rw [if_pos h] at O
    have:=h1 h
    subst this
    exact ak.mk (O.ok _ _ rfl hq' a ad hk hA')
  . rw [if_neg (by omega)] at O
    exact fE S O
 refine ⟨fun mm v0 v3 v4 ad=>∃ acc many q f',mm=X.L.length - q/\v0=.box r 0/\v3=a/\v4=.box k 0/\i < q/\40 * (X.L.length - q)+1 <= f'/\f' <= fu/\Sk X aP r k q 9 [] 0 0 (fp X.L X.E j) acc ad/\(∃ ks,eK true ks acc/\ks.length=many)/\(many=1->acc=ns)/\1 <= many/\Out X r aP R (Aq X.L X.E f' (fp X.L X.E j) acc many q),
  ⟨_,ns,1,j,fu,rfl,rfl,rfl,rfl,fJ,by omega,dk _,S,⟨[a],hk.one,rfl⟩,fun _=>rfl,dk _,O1⟩,?_⟩
 clear O1 S fJ
 rintro mm v0 v3 v4 cC ⟨acc,many,q,f',rfl,rfl,rfl,rfl,hiq,SN,FE,S,gh,Iz,SU,O⟩
 cases f' with
 | zero=>omega
 | succ f' =>
   rw [Aq] at O
   have hq:=S.hi
   refine Zz S fun b dm hb S=>?_
   cases b with
   | false =>
     simp only [bq]
     rw [if_neg (by rw [hb]; simp)] at O
     exact fin acc many q dm S gh Iz O
   | true =>
     simp only [bH]
     have aO:=dy hb
     refine oS S.A.box hq 1 (by omega) fun mi e6=>?_
     obtain ⟨kd,s,at',e,hm⟩:=tA X.L[q+1]?
     have Cn:kd=0 ↔ X.L.length <= q+1:=by
      cases ht:X.L[q+1]? with
      | none =>
        rw [ht] at e; simp only [pV,List.cons.injEq,AV.int.injEq,true_and] at e
        rw [List.getElem?_eq_none_iff] at ht
        exact ⟨fun _=>ht,fun _=>e.1.symm⟩
      | some t =>
        rw [ht] at e; simp only [pV,oy,List.cons.injEq,AV.int.injEq,true_and] at e
        have:=(c8.1 ht).1
        have hk:=(X.ok t (fj ht)).cases
        constructor
        . intro h; omega
        . intro h; omega
     have XJ:=Hm X.L[q+1]?
     rw [U5] at XJ
     rw [e] at XJ ⊢
     simp only [bu,ju]
     intro b2 fY
     have e7:=e6.new (x:=.box [AV.int .u8 0,AV.str [],AV.int .i64 0]) fY
     rw [show NV.at b2 .box=AV.box b2 0 from rfl,cX aK]
     refine ⟨⟨rfl,rfl,by simp⟩,?_⟩
     have e8:=e7.set (x:=.box (aB [AV.int .u8 0,AV.str [],AV.int .i64 0] 0 (au (.agg [.int .u8 kd,.str s,.int .i64 at'])))) (e6.fresh fY.1)
     generalize om:(mi.new b2 (.box [AV.int .u8 0,AV.str [],AV.int .i64 0])).set b2 (.box (aB [AV.int .u8 0,AV.str [],AV.int .i64 0] 0 (au (.agg [.int .u8 kd,.str s,.int .i64 at']))))=tJ at e8 ⊢
     have qZ:tJ.box b2=some [.int .u8 kd,.str s,.int .i64 at']:=by rw [<- om,aW]; rfl
     replace S:=S.gO (.kr S.A.box e8) hq (dk _)
     simp only [bg,al,fW qZ,List.drop,bE,cV,bj,aU,aI]
     have stop:¬ (q+1 < X.L.length/\Cr X.L (q+1)=false)->jj v3 (.box k 0) tJ:=fun hn=>by
      rw [if_neg (fun h=>hn h.2)] at O
      exact fin acc many q tJ S gh Iz O
     by_cases h0:kd=0
     . simp only [h0,da,show (true == false)=false from rfl,bV,aL,if_true,al,bH]
       exact stop (fun h=>by have:=Cn.1 h0; omega)
     . simp only [h0,dN,gm,bQ,wa qZ,GB,lr,aL,bJ,if_false,al]
       refine ⟨by simp,_,XJ,?_⟩
       cases hit:Cr X.L (q+1) with
       | true=>simp only [bH]; exact stop (fun h=>by rw [hit] at h; cases h.2)
       | false =>
         simp only [bq]
         have FM:q+1 < X.L.length:=by
          rcases je (q+1) X.L.length with h | h
          . exact h
          . exact absurd (Cn.2 h) h0
         rw [if_pos ⟨hb,FM,hit⟩] at O
         refine CM S hb fun qL S=>?_
         have hF:gN X f' q:=fun j hj hqj=>⟨B.first f' (by omega) j hj (by omega),(Cj f').2.2.1 j hj (by omega)⟩
         have XO:∀ IW a2,eK false [a2] IW->∃ ks,eK true ks (acc++IW)/\ks.length=many+1:=fun IW a2 h=>by
          obtain ⟨ks,h1,h2⟩:=gh
          exact ⟨ks++[a2],h1.snoc h,by simp [h2]⟩
         obtain ⟨g1,g2⟩:=hF (q+1) aO (by omega)
         refine g1 r qL _ S.A.box ⟨fun IW j2 e sd a2 wC fD A2=>?_,fun j e ad A=>O.bad j (by rw [e]; rfl) ad (S.A.trans A)⟩
         rw [e] at g2 O
         have hqj:q+1 < j2:=g2.1
         obtain ⟨ks,M1,M2,M3⟩:=S.M
         have S2:=S.gO A2 sd (by omega)
         refine GV S2 (fun _ _ _ _=>⟨ks,M1.gO A2 S.A.box,M2,by omega⟩) fD fun aec S3=>?_
         refine ⟨_,?_,acc++IW,many+1,j2,f',rfl,rfl,rfl,rfl,by omega,by omega,by omega,S3,XO IW a2 fD,fun h=>by omega,by omega,O⟩
         omega
end
theorem below:∀ (X:Rx) (fu:Nat),Below X fu:=fun X fu=>by
 induction fu with
 | zero=>constructor <;> intros <;> omega
 | succ fu B =>
   have st:∀ {f':Nat},f' <= fu+1->f' <= fu\/f'=fu+1:=fun h=>by omega
   refine ⟨fun f' hf j hj he=>?_,fun f' hf j hj he=>?_,fun f' hf j lev hj h2 h9 he=>?_,fun f' hf j hj he=>?_,fun f' hf j hj he=>?_⟩
   . rcases st hf with h | rfl
     . exact B.term f' h j hj he
     . exact Vy B hj he
   . rcases st hf with h | rfl
     . exact B.first f' h j hj he
     . exact QH hj (B.LZ (by omega)) (B.oper fu (dk _) j 2 hj (by omega) (by omega) (by omega))
   . rcases st hf with h | rfl
     . exact B.oper f' h j lev hj h2 h9 he
     . exact Vh hj h2 h9 he (fun h=>B.atom fu (dk _) j hj (by omega)) B.ops
   . rcases st hf with h | rfl
     . exact B.atom f' h j hj he
     . exact Us B hj he
   . rcases st hf with h | rfl
     . exact B.arg f' h j hj he
     . exact W8 B hj he
end Go.Rip
