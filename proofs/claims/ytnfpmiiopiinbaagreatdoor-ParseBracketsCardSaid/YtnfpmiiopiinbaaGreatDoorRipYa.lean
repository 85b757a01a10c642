/- Lemmas for the proof: no conditions. -/
import Derived.Test.YtnfpmiiopiinbaaGreatDoorRipZz
import Derived.Test.YtnfpmiiopiinbaaGreatDoorRipY
import Derived.Test.YtnfpmiiopiinbaaGreatDoorRipQ
set_option linter.unusedVariables false
set_option linter.unusedSimpArgs false
set_option linter.loopingSimpArgs false
namespace Go.Rip
open Go.Proofs Go.RowKit
def xU:List Int:=(List.range 37).map λ i=>((i:Nat):Int)+1
theorem PK {k:Int} (h:k<1\/37<k):∀ j∈xU,j≠k:=by
 intro j hj;simp only[xU,List.mem_map,List.mem_range]at hj;obtain⟨i,hi,rfl⟩:=hj;omega
theorem Sb:∃ vs,qU=.gJ (xU.map (.int .u8)) vs:=⟨_,by unfold qU xU; rfl⟩
theorem look_ok (k:Int) (U:St):eQ (some (.i,204)) (some (.agg [AV.bool false,AV.bool false,AV.bool false,AV.ag])) qU (.int .u8 k) true U=.val (match bG k with|some f=>.aK [.agg (pE f),.bool true]|none=>.aK [MA,.bool false]):=by
 obtain⟨vs,A8⟩:=Sb;rw[A8];show oZ .i (.int .u8 k) MA true (xU.map (.int .u8)) vs=_
 by_cases h:k<1\/37<k
 . rw[xk h];exact H4 xU vs (PK h)
 . obtain⟨n,rfl⟩:∃ n:Nat,k=n:=⟨k.toNat,by omega⟩;have:=QD ⟨n,by omega⟩;unfold Tt at this;rw[A8]at this;simp only at this;split at this
   . rename_i v hv;rw[hv,xP this];cases bG n<;>rfl
   . cases this
theorem eW.aeT {U:St} {v:AV} {l:List Nd} (h:eW v l.length (cg l)):sj U v l:=by
 rcases h with ⟨h0,_,h1⟩|⟨c,h1⟩
 . exact .inl (.inl ⟨h1,rL.1 h0⟩)
 . exact .inl (.inr ⟨c,h1⟩)
theorem Kg {k:Int} {f:gS} (h:bG k=some f):f.kids.length<=100/\∀ s∈f.kids,s.least<=1000/\s.o6<=1000:=by
 have hk:1<=k/\k<=37:=by
  by_cases h1:k<1\/37<k
  . rw[xk h1]at h; cases h
  . omega
 obtain⟨n,rfl⟩:∃ n:Nat,k=n:=⟨k.toNat,by omega⟩;have all:∀ n:Fin 38,(match bG ((n.val:Nat):Int) with|some f=>decide (f.kids.length<=100)&&f.kids.all λ s=>decide (s.least<=1000/\s.o6<=1000)|none=>true)=true:=by decide +kernel
 have:=all ⟨n,by omega⟩;simp only[h,cb,eg,fm]at this;exact this
def nZ (U:St) (bs:List (Nat×List AV)):Prop:=∀ p∈bs,U.box p.1=some p.2
section
variable {U ad:St} {bs:List (Nat×List AV)} {b:Nat} {x:List AV}
theorem nZ.J4 (h:nZ U bs) (e:cX U ad):nZ ad bs:=λ p hp=>e.aY (h p hp)
theorem nZ.cons (h:nZ U bs) (k:U.box b=some x):nZ U ((b,x)::bs):=λ p hp=>by
 rcases cK.1 hp with rfl|hp
 . exact k
 . exact h p hp
theorem nZ.set (h:nZ U bs) (hb:∀ p∈bs,p.1≠b) {y:Live}:nZ (U.set b y) bs:=λ p hp=>by
 rw[aO (hb p hp)]; exact h p hp
theorem nZ.del (h:nZ U bs) (hb:∀ p∈bs,p.1≠b):nZ (U.del b) bs:=λ p hp=>by
 rw[jl (hb p hp)]; exact h p hp
theorem nZ.fresh (h:nZ U bs) (f:U.dL b):∀ p∈bs,p.1≠b:=λ p hp=>f.bO (h p hp)
end
theorem ahs {e:TypeId} {x:AV} {z:AV} {kq:AV->Prop} (hx:x.dw=true) (hc:av x=[x]) (hk:kq (.vec 1 .full [x])):az K (au (some (e,1)) (some [z]) 1 false [(0,x)]) kq:=by
 rw[zz];refine⟨by omega,?_⟩;rw[vR (o:=0) (s:=1) rfl];refine⟨⟨hx,by rw[hc]; rfl,by simp[bT]⟩,?_⟩;rw[Cq,hc];exact⟨rfl,hk⟩
theorem iV.loop {ar U:St} {v:AV} {e:TypeId} {sz n:Nat} {l:List AV} {o:Nat} {L L':gm} (h:iV ar U v e sz n l) (ho:U.loop o=some L) (hx:cX ar (U.set o (.loop L'))):iV ar (U.set o (.loop L')) v e sz n l:=by
 refine⟨?_,h.z,h.t,hx⟩;rcases h.g with g|⟨τ,r1,r2,r3⟩
 . exact .inl g
 . refine .inr ⟨τ,r1,?_,r3⟩;rw[iL]; exact r2;rintro rfl;unfold St.tok at r2; unfold St.loop at ho;split at ho
   . rename_i e; simp[e]at r2
   . cases ho
theorem K7 {l:List Nd} {ks:List Nat} {k:Nat} {x:Nd} (h:l[k]?=some x):jC l (ks++[k])=jC l ks++[x.kind]:=by simp[jC,h]
theorem abN {U:St} {R:cV->St->Prop} {v:AV} {l:List Nd} {n:Nat} {x:Nd} (hv:eW v l.length (cg l)) (hx:l[n]?=some x) (hl:l.length<=10000) (jV:x.text.length<=3000) (qY:∀ ad,cX U ad)
 (h:∀ ad,cX U ad->R (.ret (.bool (kQ l n x))) ad):ae K 131 [.agg [v],.int .i64 (n:Nat),qU] U R:=by
 refine Uy ?_;unfold Ux;have hnl:=(dp.1 hx).1;rw[gd rfl];intro b3 lu;have k3:(U.new b3 (.box (av (.agg [v])))).box b3=some [v]:=aD;have e1:=bg lu (x:=.box (av (.agg [v])));generalize U.new b3 (.box (av (.agg [v])))=aS at *;rw[gd rfl];intro b4 gk;have k4:(aS.new b4 (.box (av (.int .i64 (n:Nat))))).box b4=some [.int .i64 (n:Nat)]:=aD;have Lj:=gk.bO k3;have e2:=e1.new gk (x:=.box (av (.int .i64 (n:Nat))));have k3:=(bg gk (x:=.box (av (.int .i64 (n:Nat))))).aY k3;generalize aS.new b4 (.box (av (.int .i64 (n:Nat))))=bf at *;rw[cm];intro b6 rW;have k6:(bf.new b6 (.box [.bool false])).box b6=some [.bool false]:=aD;have n36:=rW.bO k3;have n46:=rW.bO k4;have f6:U.live b6=none:=e2.fresh rW.1;have e3:=e2.new rW (x:=.box [.bool false]);have k3:=(bg rW (x:=.box [.bool false])).aY k3;have k4:=(bg rW (x:=.box [.bool false])).aY k4;generalize bf.new b6 (.box [.bool false])=bR at *;simp only[bh,al,db];refine ej k3 rfl ?_;refine ej k4 rfl ?_;refine GV hv hx λ r=>?_;rw[tS];refine⟨by simp[dA],?_⟩;have Kk:(dA x++r).take 6=dA x:=by simp[dA]
 rw[Kk,cm];intro b7 nR;have k7:(bR.new b7 (.box [AV.int .u8 0,AV.str [],AV.int .i64 0,AV.int .i64 0,AV.int .i64 0,AV.int .i64 0])).box b7=some [AV.int .u8 0,AV.str [],AV.int .i64 0,AV.int .i64 0,AV.int .i64 0,AV.int .i64 0]:=aD;have n37:=nR.bO k3;have Z9:=nR.bO k4;have n67:=nR.bO k6;have f7:U.live b7=none:=e3.fresh nR.1;have e4:=e3.new nR (x:=.box [AV.int .u8 0,AV.str [],AV.int .i64 0,AV.int .i64 0,AV.int .i64 0,AV.int .i64 0]);have en:=bg nR (x:=.box [AV.int .u8 0,AV.str [],AV.int .i64 0,AV.int .i64 0,AV.int .i64 0,AV.int .i64 0]);have k3:=en.aY k3;have k4:=en.aY k4;have k6:=en.aY k6;clear en;generalize bR.new b7 (.box [AV.int .u8 0,AV.str [],AV.int .i64 0,AV.int .i64 0,AV.int .i64 0,AV.int .i64 0])=cP at *;rw[cI k7];refine⟨⟨rfl,rfl,by simp[dA]⟩,?_⟩;have j7:(cP.set b7 (.box (ay [AV.int .u8 0,AV.str [],AV.int .i64 0,AV.int .i64 0,AV.int .i64 0,AV.int .i64 0] 0 (av (.agg (dA x)))))).box b7=some (dA x):=by rw[aT]; rfl
 have k3:(cP.set b7 (.box (ay [AV.int .u8 0,AV.str [],AV.int .i64 0,AV.int .i64 0,AV.int .i64 0,AV.int .i64 0] 0 (av (.agg (dA x)))))).box b3=some [v]:=by rw[aO n37]; exact k3
 have k4:(cP.set b7 (.box (ay [AV.int .u8 0,AV.str [],AV.int .i64 0,AV.int .i64 0,AV.int .i64 0,AV.int .i64 0] 0 (av (.agg (dA x)))))).box b4=some [.int .i64 (n:Nat)]:=by rw[aO Z9]; exact k4
 have k6:(cP.set b7 (.box (ay [AV.int .u8 0,AV.str [],AV.int .i64 0,AV.int .i64 0,AV.int .i64 0,AV.int .i64 0] 0 (av (.agg (dA x)))))).box b6=some [.bool false]:=by rw[aO n67]; exact k6
 have e5:=e4.set f7 (x:=.box (ay [AV.int .u8 0,AV.str [],AV.int .i64 0,AV.int .i64 0,AV.int .i64 0,AV.int .i64 0] 0 (av (.agg (dA x)))));generalize cP.set b7 (.box (ay [AV.int .u8 0,AV.str [],AV.int .i64 0,AV.int .i64 0,AV.int .i64 0,AV.int .i64 0] 0 (av (.agg (dA x)))))=du at *;clear k7 lu gk rW nR e1 e2 e3 e4;refine ej j7 rfl ?_;rw[look_ok,al];have ret:∀ (q:Bool) (ad:St),cX U ad->(∃ y,ad.box b6=some [y])->kQ l n x=q->(aI (some (false,1)) (.box b6 0) (.bool q) ad).wp K ad (λ _ U=>bD (some (false,1)) (.box b6 0) U λ r0=>aq R r0 U) (aa R):=by
  intro q ad e ⟨y,hy⟩ hq;rw[cI hy];refine⟨⟨rfl,rfl,by simp⟩,?_⟩;rw[zD aT rfl];subst hq;exact aq.mk (h _ (e.set f6))
 cases hf:bG x.kind with
 | none =>
   have hq:kQ l n x=false:=by unfold kQ; rw[hf]
   simp only[bp,List.drop,bC,MA];rw[cm];intro b8 sy;have k8:(du.new b8 (.box [AV.bool false,AV.bool false,AV.bool false,AV.ag])).box b8=some [AV.bool false,AV.bool false,AV.bool false,AV.ag]:=aD;have n68:=sy.bO k6;have e6:=e5.new sy (x:=.box [AV.bool false,AV.bool false,AV.bool false,AV.ag]);have f8:U.live b8=none:=e5.fresh sy.1;have k6:=(bg sy (x:=.box [AV.bool false,AV.bool false,AV.bool false,AV.ag])).aY k6;generalize du.new b8 (.box [AV.bool false,AV.bool false,AV.bool false,AV.ag])=mh at *;rw[cI k8];refine⟨⟨rfl,rfl,by simp⟩,?_⟩;simp only[eT,al,fx,bo,show (true==false)=false from rfl,aP,cN,rV,aQ,if_true];exact dz (ret false _ (e6.set f8) ⟨.bool false,by rw[aO n68]; exact k6⟩ hq)
 | some f =>
   simp only[bp,List.drop,bC];rw[cm];intro b8 sy;have k8:(du.new b8 (.box [AV.bool false,AV.bool false,AV.bool false,AV.ag])).box b8=some [AV.bool false,AV.bool false,AV.bool false,AV.ag]:=aD;have n38:=sy.bO k3;have n48:=sy.bO k4;have n68:=sy.bO k6;have n78:=sy.bO j7;have e6:=e5.new sy (x:=.box [AV.bool false,AV.bool false,AV.bool false,AV.ag]);have f8:U.live b8=none:=e5.fresh sy.1;have en:=bg sy (x:=.box [AV.bool false,AV.bool false,AV.bool false,AV.ag]);have k3:=en.aY k3;have k4:=en.aY k4;have k6:=en.aY k6;have j7:=en.aY j7;clear en;generalize du.new b8 (.box [AV.bool false,AV.bool false,AV.bool false,AV.ag])=mh at *;have CQ:(pE f).length=4:=rfl;rw[cI k8];refine⟨⟨rfl,rfl,by simp[CQ]⟩,?_⟩;have j8:(mh.set b8 (.box (ay [AV.bool false,AV.bool false,AV.bool false,AV.ag] 0 (av (.agg (pE f)))))).box b8=some (pE f):=by rw[aT]; rfl
   have k3:(mh.set b8 (.box (ay [AV.bool false,AV.bool false,AV.bool false,AV.ag] 0 (av (.agg (pE f)))))).box b3=some [v]:=by rw[aO n38]; exact k3
   have k4:(mh.set b8 (.box (ay [AV.bool false,AV.bool false,AV.bool false,AV.ag] 0 (av (.agg (pE f)))))).box b4=some [.int .i64 (n:Nat)]:=by rw[aO n48]; exact k4
   have k6:(mh.set b8 (.box (ay [AV.bool false,AV.bool false,AV.bool false,AV.ag] 0 (av (.agg (pE f)))))).box b6=some [.bool false]:=by rw[aO n68]; exact k6
   have j7:(mh.set b8 (.box (ay [AV.bool false,AV.bool false,AV.bool false,AV.ag] 0 (av (.agg (pE f)))))).box b7=some (dA x):=by rw[aO n78]; exact j7
   have e7:=e6.set f8 (x:=.box (ay [AV.bool false,AV.bool false,AV.bool false,AV.ag] 0 (av (.agg (pE f)))));generalize mh.set b8 (.box (ay [AV.bool false,AV.bool false,AV.bool false,AV.ag] 0 (av (.agg (pE f)))))=jk at *;clear k8 sy e5 e6;have hQ:kQ l n x=(decide (1<=x.size/\x.size<=(l.length:Int)-n)&&(eF x f&&((fO l ((n:Int)+x.size) l.length (n+1)).all (λ k=>decide (1<=gV l k/\(k:Int)+gV l k<=n+x.size)) &&
    (decide (((behind l (n+1) (fO l ((n:Int)+x.size) l.length (n+1)):Nat):Int)=n+x.size)&&ep (jC l (fO l ((n:Int)+x.size) l.length (n+1))) f.kids)))):=by unfold kQ; rw[hf]
   simp only[eT,al,dm,bo,iY,aP,cB,aJ];have hlen:cr (some false) v=.val (.int .i64 l.length):=hv.len;refine jL (eZ k3 rfl ?_);rw[hlen,aJ];refine eZ k4 rfl ?_;rw[l9,iv,jN,aJ];refine⟨bI (by omega) (by omega),?_⟩;refine jL (eZ j7 rfl (oz (rk _ _ _) ?_));simp only[eT,aJ,aQ,bZ,if_false,al];have bad:kQ l n x=false->(aI (some (false,1)) (.box b6 0) (.bool false) jk).wp K jk (λ _ U=>bD (some (false,1)) (.box b6 0) U λ r0=>aq R r0 U) (aa R):=λ hq=>ret false _ e7 ⟨_,k6⟩ hq
   by_cases hw:1<=x.size/\x.size<=(l.length:Int)-n
   rotate_left
   . simp only[hw,eS,fx,bo,show (true==false)=false from rfl,aP,cN,rV,aQ,if_true,al];exact dz (bad (by rw[hQ,decide_eq_false hw]; rfl))
   rw[decide_eq_true hw,Bool.true_and]at hQ;simp only[hw,dG,dm,bo,iY,aP,cB];simp only[and_self,dG,dm,bo,iY,aP,cB];refine jL (eZ j8 rfl (jL (eZ j7 rfl ?_)));rw[xh,aJ,Aw,aJ];have hwt:(!decide (x.text=w_))=decide (x.text≠[]):=by
    by_cases h:x.text=[]<;>simp[h,w_]
   rw[hwt];simp only[aQ,bZ,if_false,al];have wz:eF x f=((f.text==decide (x.text≠[]))&&((!f.text||kH x.text)&&(dV x.n&&(dV x.m&&((f.n||decide (x.n=0))&&(f.m||decide (x.m=0))))))):=by
    unfold eF;have e0:(x.text != [])=decide (x.text≠[]):=by by_cases h:x.text=[]<;>simp[h]
    have e1:(x.n==0)=decide (x.n=0):=by by_cases h:x.n=0<;>simp[h]
    have e2:(x.m==0)=decide (x.m=0):=by by_cases h:x.m=0<;>simp[h]
    rw[e0,e1,e2]; simp only[Bool.and_assoc]
   cases ht:(f.text != decide (x.text≠[])) with
   | true =>
     simp only[bo,show (true==false)=false from rfl,aP,cN,rV,aQ,if_true,al];refine dz (bad ?_);have:(f.text==decide (x.text≠[]))=false:=by revert ht; cases f.text<;>cases decide (x.text≠[])<;>simp
     rw[hQ,wz,this]; rfl
   | false =>
   have r9:(f.text==decide (x.text≠[]))=true:=by revert ht; cases f.text<;>cases decide (x.text≠[])<;>simp
   rw[r9,Bool.true_and]at wz;simp only[bo,iY,aP,cB];refine jL (eZ j8 rfl ?_);simp only[aJ];have nm:∀ (A:Prop),((!f.text||kH x.text)=true->A) ->
    ao K (aM (.bool f.text) true) (af (some 1) (.box b7 0)) (λ mU =>
    ao K (aM (.bool f.text) true) (ak (some (false,1)) mU jk) (λ v53 =>
    ao K (aM (.bool f.text) true) (aC.enter 208 [v53]) (λ nC =>
    ao K (aM (.bool f.text) true) (lj .not nC) (λ mJ =>
    az K (bN (.bool f.text) mJ (.bool false)) (λ oI =>
    ax (if false=true then AV.bool true else oI) ((aI (some (false,1)) (.box b6 0) (.bool false) jk).wp K jk (λ _ U=>bD (some (false,1)) (.box b6 0) U λ r0=>aq R r0 U) (aa R)) A))))):=by
    intro A hA;cases NZ:f.text with
    | false =>
      simp only[bo,show (false==true)=false from rfl,aP,cN,aQ,bZ,if_false,aJ,al];exact cY (hA (by rw[NZ]; rfl))
    | true =>
      simp only[bo,iY,aP,cB];refine jL (eZ j7 rfl (oz (QJ _ jV) ?_));simp only[eT,aJ,aQ,if_true,bZ,if_false,al];cases Hx:kH x.text with
      | true=>exact cY (hA (by rw[NZ,Hx]; rfl))
      | false=>exact dz (bad (by rw[hQ,wz,NZ,Hx]; rfl))
   refine nm _ λ Hx=>?_;clear nm;rw[Hx,Bool.true_and]at wz;simp only[bh,al,db];refine ej j7 rfl ((rk _ _ _).go ?_);have Sy:∀ a:Int,decide (0<=a/\a<=1000000)=dV a:=λ _=>rfl;rw[Sy];simp only[eT,al];cases hN:dV x.n with
   | false =>
     simp only[fx,bo,show (true==false)=false from rfl,aP,cN,rV,aQ,if_true,al];exact dz (bad (by rw[hQ,wz,hN]; rfl))
   | true =>
   rw[hN,Bool.true_and]at wz;simp only[dm,bo,iY,aP,cB,aJ];refine eZ j7 rfl (oz (rk _ _ _) ?_);rw[Sy];simp only[eT,aJ,aQ,bZ,if_false,al];cases hM:dV x.m with
   | false =>
     simp only[fx,bo,show (true==false)=false from rfl,aP,cN,rV,aQ,if_true,al];exact dz (bad (by rw[hQ,wz,hM]; rfl))
   | true =>
   rw[hM,Bool.true_and]at wz;simp only[dm,bo,iY,aP,cB,aJ];refine eZ j8 rfl ?_;simp only[eT,aJ];have aaH:∀ (kq:AV->Prop),((f.n||decide (x.n=0))=true->kq (.bool false))->((f.n||decide (x.n=0))=false->kq (.bool true)) ->
    ao K (aM (.bool !f.n) true) (.val (.box b7 2)) (λ Di=>ao K (aM (.bool !f.n) true) (ak (some (false,1)) Di jk) λ wY=>ao K (aM (.bool !f.n) true) (aw .neq (BT.mk false false false none false) true wY (AV.int .i64 0)) λ v75 =>
     az K (bN (.bool !f.n) v75 (.bool false)) kq):=by
    intro kq h1 h2;cases hfn:f.n with
    | true =>
      simp only[dm,bo,show (false==true)=false from rfl,aP,cN,aQ,bZ,if_false,aJ];exact h1 (by rw[hfn]; rfl)
    | false =>
      simp only[fx,bo,iY,aP,cB,aJ];refine eZ j7 rfl ?_;rw[c8,aJ];simp only[aQ,if_true,aJ]
      by_cases h0:x.n=0
      . simp only[h0,dG,dm]; exact h1 (by simp[h0])
      . simp only[h0,eS,fx]; exact h2 (by rw[hfn]; simp[h0])
   have aaG:∀ (kq:AV->Prop),((f.m||decide (x.m=0))=true->kq (.bool false))->((f.m||decide (x.m=0))=false->kq (.bool true)) ->
    ao K (aM (.bool !f.m) true) (.val (.box b7 3)) (λ Di=>ao K (aM (.bool !f.m) true) (ak (some (false,1)) Di jk) λ wY=>ao K (aM (.bool !f.m) true) (aw .neq (BT.mk false false false none false) true wY (AV.int .i64 0)) λ v75 =>
     az K (bN (.bool !f.m) v75 (.bool false)) kq):=by
    intro kq h1 h2;cases hfn:f.m with
    | true =>
      simp only[dm,bo,show (false==true)=false from rfl,aP,cN,aQ,bZ,if_false,aJ];exact h1 (by rw[hfn]; rfl)
    | false =>
      simp only[fx,bo,iY,aP,cB,aJ];refine eZ j7 rfl ?_;rw[c8,aJ];simp only[aQ,if_true,aJ]
      by_cases h0:x.m=0
      . simp only[h0,dG,dm]; exact h1 (by simp[h0])
      . simp only[h0,eS,fx]; exact h2 (by rw[hfn]; simp[h0])
   refine aaH _ (λ hn=>?_) λ hn=>?_
   rotate_left
   . simp only[bZ,if_false,bo,show (true==false)=false from rfl,aP,cN,rV,aQ,if_true,al];exact dz (bad (by rw[hQ,wz,hn]; rfl))
   rw[hn,Bool.true_and]at wz;simp only[bZ,if_false,bo,iY,aP,cB,aJ];refine eZ j8 rfl ?_;simp only[eT,aJ];refine aaG _ (λ hm=>?_) λ hm=>?_
   rotate_left
   . simp only[bZ,if_false,aQ,if_true,al];exact dz (bad (by rw[hQ,wz,hm]; rfl))
   rw[hm]at wz;rw[wz,Bool.true_and]at hQ;simp only[bZ,if_false,aQ,al];refine cY ?_;clear aaH aaG wz bad;rw[cm];intro uK Xi;have H7:nZ jk [(b3,[v]),(b4,[.int .i64 (n:Nat)]),(b6,[.bool false]),(b7,dA x),(b8,pE f)] :=
    (((((show nZ jk [] from λ p hp=>by cases hp).cons j8).cons j7).cons k6).cons k4).cons k3
   have HR:(jk.new uK (.box [.ag])).box uK=some [.ag]:=aD;have aiQ:=H7.fresh Xi;have H8:=H7.J4 (bg Xi (x:=.box [.ag]));generalize jk.new uK (.box [.ag])=tf at *;clear Xi H7;refine ej (H8 (b4,[.int .i64 (n:Nat)]) (by simp)) rfl ?_;rw[dO];refine⟨bI (by omega) (by omega),?_⟩;rw[cm];intro ln xm;have Z2:(tf.new ln (.box [.int .i64 0])).box ln=some [.int .i64 0]:=aD;have aeL:=(H8.cons HR).fresh xm;have H9:=H8.J4 (bg xm (x:=.box [.int .i64 0]));have HR:=(bg xm (x:=.box [.int .i64 0])).aY HR;generalize tf.new ln (.box [.int .i64 0])=tg at *;clear xm H8;rw[cI Z2];refine⟨⟨rfl,rfl,by simp⟩,?_⟩;have ZF:∀ p∈[(b3,[v]),(b4,[.int .i64 (n:Nat)]),(b6,[.bool false]),(b7,dA x),(b8,pE f)],p.1≠ln:=λ p hp=>aeL p (List.mem_cons_of_mem _ hp);have Qw:uK≠ln:=aeL (uK,_) (List.mem_cons_self ..);have H10:=H9.set ZF (y:=.box (ay [AV.int .i64 0] 0 (av (.int .i64 ((n:Int)+1)))));have HR:(tg.set ln (.box (ay [AV.int .i64 0] 0 (av (.int .i64 ((n:Int)+1)))))).box uK=some [.ag]:=by rw[aO Qw]; exact HR
   have Z2:(tg.set ln (.box (ay [AV.int .i64 0] 0 (av (.int .i64 ((n:Int)+1)))))).box ln=some [.int .i64 ((n:Int)+1)]:=by rw[aT]; rfl
   generalize tg.set ln (.box (ay [AV.int .i64 0] 0 (av (.int .i64 ((n:Int)+1)))))=zS at *;clear H9;rw[ph (H10 (b3,[v]) (by simp))];refine⟨by simp,?_⟩;refine ej (H10 (b4,[.int .i64 (n:Nat)]) (by simp)) rfl ?_;refine zc (n:=n) (x:=x) hv hx (bI (by omega) (by omega)) λ bn be bt akb d1 d2 d3 f1 f2 f3 q1 q2 q3 AH=>?_;simp only[bE];have H11:=(((H10.J4 AH).cons q3).cons q2).cons q1;have HR:=AH.aY HR;have ajh:=AH.aY Z2;have ae1:∀ b y,zS.box b=some y->b≠bn/\b≠be/\b≠bt:=λ b y hb =>
    ⟨λ e=>ct hb (e▸f1),λ e=>ct hb (e▸f2),λ e=>ct hb (e▸f3)⟩
   have ahf:∀ p∈[(bn,[AV.int .i64 (n:Nat)]),(be,[.int .i64 ((n:Int)+x.size)]),(bt,[v]),(b3,[v]),(b4,[.int .i64 (n:Nat)]),(b6,[.bool false]),(b7,dA x),(b8,pE f)],p.1≠uK:=by
    intro p hp;have g:=ae1 uK _ (by assumption);simp only[cK]at hp;rcases hp with rfl|rfl|rfl|hp
    . exact g.1.symm
    . exact g.2.1.symm
    . exact g.2.2.symm
    . exact aiQ p (by simpa using hp)
   have ahg:∀ p∈[(bn,[AV.int .i64 (n:Nat)]),(be,[.int .i64 ((n:Int)+x.size)]),(bt,[v]),(b3,[v]),(b4,[.int .i64 (n:Nat)]),(b6,[.bool false]),(b7,dA x),(b8,pE f)],p.1≠ln:=by
    intro p hp;have g:=ae1 ln _ Z2;simp only[cK]at hp;rcases hp with rfl|rfl|rfl|hp
    . exact g.1.symm
    . exact g.2.1.symm
    . exact g.2.2.symm
    . exact ZF p (by simpa using hp)
   generalize Sn:[(bn,[AV.int .i64 (n:Nat)]),(be,[.int .i64 ((n:Int)+x.size)]),(bt,[v]),(b3,[v]),(b4,[.int .i64 (n:Nat)]),(b6,[.bool false]),(b7,dA x),(b8,pE f)]=bs at *;have mem:∀ {ad:St},nZ ad bs->ad.box bn=some [.int .i64 (n:Nat)]/\ad.box be=some [.int .i64 ((n:Int)+x.size)]/\ad.box bt=some [v]/\ad.box b3=some [v]/\ad.box b4=some [.int .i64 (n:Nat)]/\ad.box b6=some [.bool false]/\ad.box b7=some (dA x)/\ad.box b8=some (pE f):=by
    intro ad hH;subst Sn;exact⟨hH (bn,[.int .i64 (n:Nat)]) (by simp),hH (be,[.int .i64 ((n:Int)+x.size)]) (by simp),hH (bt,[v]) (by simp),hH (b3,[v]) (by simp),hH (b4,[.int .i64 (n:Nat)]) (by simp),hH (b6,[.bool false]) (by simp),hH (b7,dA x) (by simp),hH (b8,pE f) (by simp)⟩
   have hlp:∀ {ad:St} {o:Nat} {L:gm},nZ ad bs->ad.loop o=some L->∀ p∈bs,p.1≠o:=λ hH ho p hp=>bY (hH p hp) ho;refine Fp (λ ks ad=>nZ ad bs/\(∃ vk,ad.box uK=some [vk]/\iV U ad vk 5 1 ks.length (pG (jC l ks)))/\ad.box ln=some [.int .i64 ((behind l (n+1) ks:Nat):Int)]/\ks.all (λ k=>decide (1<=gV l k/\(k:Int)+gV l k<=n+x.size))=true) (λ ad=>ad.box b6=some [.bool false]/\kQ l n x=false) hv hnl (by omega) (by omega)
    (λ ks ad hI=>⟨(mem hI.1).1,(mem hI.1).2.1,(mem hI.1).2.2.1⟩) (λ ks ad o L L' hI ho=>?_) (λ ks ad o L hI ho=>?_) (λ ad o L L' hJ ho=>?_) (λ ks kg y ad o L1 q hI hy aN mD hnk ta tB hL SG ZQ=>?_) (λ ks ad o L iW hI hL=>?_) (λ ad o L hJ hL=>?_) ⟨H11,⟨_,HR,by simpa [jC,pG] using iV.nil (qY _)⟩,by simpa [behind] using ajh,rfl⟩
   . obtain⟨hH,⟨vk,dU,CR⟩,xV,ck⟩:=hI;exact⟨hH.set (hlp hH ho),⟨vk,by rw[aO (bY dU ho)]; exact dU,CR.loop ho (qY _)⟩,by rw[aO (bY xV ho)]; exact xV,ck⟩
   . obtain⟨hH,⟨vk,dU,CR⟩,xV,ck⟩:=hI;have e:=bg ho (x:=.loop L);exact⟨hH.J4 e,⟨vk,e.aY dU,CR.mono e⟩,e.aY xV,ck⟩
   . exact⟨by rw[aO (bY hJ.1 ho)]; exact hJ.1,hJ.2⟩
   . obtain⟨hH,⟨vk,dU,CR⟩,xV,ck⟩:=hI;obtain⟨mn,me,mt,m3,m4,m6,m7,m8⟩:=mem hH;refine eZ dU rfl ?_;refine eZ m3 rfl ?_;refine DP hv hy λ r=>?_;simp only[dC,aJ,eG,qf,dA,dK,jE];refine ahs rfl rfl ?_;refine FN CR (m:=1) (l2:=[.int .u8 y.kind]) rfl rfl (by omega) (by omega) λ bf v' g2 k2=>?_;have sA:∀ b z,ad.box b=some z->bf.live b=ad.live b/\bf.box b=some z:=λ b z hb=>by
      cases wB:ad.live b with
      | none=>exact absurd wB (ct hb)
      | some w =>
        have:=k2 b w (λ n' l' EK=>by
         rcases CR.g with ⟨_,_,h3⟩|⟨τ,r1,r2,_⟩
         . rw[h3]at EK; cases EK
         . rw[r1]at EK; cases EK; exact fB hb r2 rfl) wB
        exact⟨this,by rw[dS (this.trans wB.symm)]; exact hb⟩
     refine⟨λ b hb=>?_,?_⟩
     . simp only[eE,gx,eH,fT,cK,List.not_mem_nil,or_false]at hb;rcases hb with rfl|rfl
       . exact (sA _ _ m3).1
       . exact (sA _ _ dU).1
     have hH2:nZ bf bs:=λ p hp=>(sA _ _ (hH p hp)).2;have PO:=(sA _ _ xV).2;have A7:=(sA _ _ dU).2;have sC:v'.dw=true/\av v'=[v']:=by
      rcases g2.g with ⟨h0,_,_⟩|⟨τ,r1,_,_⟩
      . omega
      . rw[r1]; exact⟨rfl,rfl⟩
     rw[cI A7];refine⟨⟨sC.1,by rw[sC.2]; rfl,by simp⟩,?_⟩;have hH3:=hH2.set ahf (y:=.box (ay [vk] 0 (av v')));have Xe:(bf.set uK (.box (ay [vk] 0 (av v')))).box ln=some [.int .i64 ((behind l (n+1) ks:Nat):Int)]:=by rw[aO Qw.symm]; exact PO
     have aiu:(bf.set uK (.box (ay [vk] 0 (av v')))).box uK=some [v']:=by rw[aT,sC.2]; rfl
     have g3:iV U (bf.set uK (.box (ay [vk] 0 (av v')))) v' 5 1 (ks.length+1) (pG (jC l ks)++[.int .u8 y.kind]):=by
      refine⟨?_,g2.z,g2.t,qY _⟩;rcases g2.g with g|⟨τ,r1,r2,r3⟩
      . exact .inl g
      . exact .inr ⟨τ,r1,by rw[iL (fB A7 r2).symm]; exact r2,r3⟩
     have uM:(bf.set uK (.box (ay [vk] 0 (av v')))).loop o=some L1:=by
      obtain⟨_,kl⟩:=oO CR.g k2;rw[gU]; exact kl hL;rw[dW,if_neg (bY A7 (kl hL)).symm]
     generalize bf.set uK (.box (ay [vk] 0 (av v')))=bR at *;clear g2 k2 sA hH2 PO A7 hH dU CR xV mn me mt m3 m4 m6 m7 m8;obtain⟨mn,me,mt,m3,m4,m6,m7,m8⟩:=mem hH3;refine eZ m4 rfl ?_;refine eZ m7 rfl ?_;rw[Fk];refine⟨bI (by omega) (by omega),?_⟩;have akB:=(dp.1 hy).1;rw[l9,iv,jN,aJ];refine⟨bI (by omega) (by omega),?_⟩;refine eZ m3 rfl ?_;refine DP hv hy λ r=>?_;simp only[dC,aJ,dA,dK,List.drop,qf,jE];refine oz (rk _ _ _) ?_;simp only[eT,aJ];have N9:gV l kg=y.size.toNat:=by unfold gV; rw[hy]; rfl
     by_cases hwk:1<=y.size/\y.size<=(n:Int)+x.size-kg
     . simp only[hwk,and_self,dG,dm];refine cY ?_;refine ej m3 rfl ?_;refine GV hv hy λ r=>?_;simp only[dC,al,dA,dK,List.drop,oK,bC,dO];refine⟨bI (by omega) (by omega),?_⟩;rw[cI Xe];refine⟨⟨rfl,rfl,by simp⟩,?_⟩;refine SG _ ⟨hH3.set ahg,⟨v',by rw[aO Qw]; exact aiu,?_⟩,?_,?_⟩ (by omega) ?_
       . have:iV U (bR.set ln (.box (ay [.int .i64 ((behind l (n+1) ks:Nat):Int)] 0 (av (.int .i64 ((kg:Int)+y.size)))))) v' 5 1 (ks.length+1) (pG (jC l ks)++[.int .u8 y.kind]):=by
          refine⟨?_,g3.z,g3.t,qY _⟩;rcases g3.g with g|⟨τ,r1,r2,r3⟩
          . exact .inl g
          . exact .inr ⟨τ,r1,by rw[iL (fB Xe r2).symm]; exact r2,r3⟩
         rw[K7 hy];simpa [pG] using this
       . rw[aT,CF,N9];have:((kg+y.size.toNat:Nat):Int)=(kg:Int)+y.size:=by omega
         rw[this]; rfl
       . rw[List.all_append,ck];simp only[List.all_cons,List.all_nil,Bool.and_true,Bool.true_and,eg,N9];omega
       . rw[gU]; exact uM;rw[dW,if_neg (bY Xe uM).symm]
     . simp only[hwk,eS,fx];refine dz ?_;rw[cI m6];refine⟨⟨rfl,rfl,by simp⟩,?_⟩;refine ZQ _ ⟨by rw[aT]; rfl,?_⟩ ?_
       . obtain⟨r',Ac⟩:=tB;rw[hQ,Ac,List.all_append,List.all_cons];have:decide (1<=gV l kg/\(kg:Int)+gV l kg<=n+x.size)=false:=by
          rw[decide_eq_false_iff_not,N9]; omega
         rw[this]; simp
       . rw[gU]; exact uM;rw[dW,if_neg (bY m6 uM).symm]
   . obtain⟨hH,⟨vk,dU,CR⟩,xV,ck⟩:=hI;have hH':=hH.del (hlp hH hL);have PO:(ad.del o).box ln=some [.int .i64 ((behind l (n+1) ks:Nat):Int)]:=by rw[jl (bY xV hL)]; exact xV
     have A7:(ad.del o).box uK=some [vk]:=by rw[jl (bY dU hL)]; exact dU
     obtain⟨mn,me,mt,m3,m4,m6,m7,m8⟩:=mem hH';have akj:ks.length<=l.length:=by rw[iW]; exact y8 _ _ _ _
     have wB:behind l (n+1) ks<=n+x.size.toNat+n+1:=by
      clear hQ;rcases List.eq_nil_or_concat ks with h0|⟨ks',k,h0⟩
      . rw[h0]; simp[behind]
        try omega
      . rw[h0,List.concat_eq_append,CF];rw[h0,List.concat_eq_append,List.all_append,cb]at ck;have:=ck.2;simp only[List.all_cons,List.all_nil,Bool.and_true,eg]at this;omega
     refine ej PO rfl ?_;refine ej m4 rfl ?_;refine ej m7 rfl ?_;rw[dO];refine⟨bI (by omega) (by omega),?_⟩;refine FO ?_;rw[<- iW]at hQ;rw[ck,Bool.true_and]at hQ
     by_cases xZ:((behind l (n+1) ks:Nat):Int)=n+x.size
     . rw[decide_eq_true xZ,Bool.true_and]at hQ;simp only[xZ,dG,bo,iY,aP,cB,bh,aJ,db];refine eZ A7 rfl ?_;refine eZ m8 rfl ?_;refine dz ?_;have sC:eW vk (jC l ks).length (pG (jC l ks)):=by
        have:(jC l ks).length=ks.length:=by simp[jC]
        rw[this]; exact CR.sl
       have qX:=Kg hf;refine aed sC (by simp[jC]; omega) qX.1 qX.2 λ tg e9=>?_;simp only[bE,aQ,if_true,al];exact ret _ tg (qY _) ⟨_,e9.aY m6⟩ hQ
     . rw[decide_eq_false xZ,Bool.false_and]at hQ;simp only[xZ,eS,bo,show (false==true)=false from rfl,aP,cN,aQ,bZ,if_false,al];refine cY ?_;exact ret false _ (qY _) ⟨_,m6⟩ hQ
   . have h6:(ad.del o).box b6=some [.bool false]:=by rw[jl (bY hJ.1 hL)]; exact hJ.1
     rw[zD h6 rfl];refine aq.mk ?_;have:=h (ad.del o) (qY _);rw[hJ.2]at this; exact this
end Go.Rip
namespace Go.Rip
open Go.Proofs Go.RowKit
theorem yQ (ad:St):cX (bU ⟨.e,0⟩) ad:=λ b x h=>by cases h
theorem Tn {v:AV} {l:List Nd} {n:Nat} {x:Nd} (hv:eW v l.length (cg l)) (hc:closed v=true) (hx:l[n]?=some x) (hl:l.length<=10000) (jV:x.text.length<=3000):Pure K 131 [.agg [v],.int .i64 (n:Nat),qU] (.bool (kQ l n x)) :=
 Pure.of (by simp[cD,closed,hc,show closed qU=true by kernel_rfl]) rfl (λ U=>rfl) λ R hR=>abN hv hx hl jV yQ λ ad _=>hR ad
def mI (l:List Nd):Bool:=match l[0]? with|none=>false|some x0=>decide (x0.kind=1)&&(decide (x0.size=((l.length:Nat):Int))&&(List.range l.length).all λ n=>match l[n]? with|some x=>kQ l n x|none=>true)
theorem u6 {l:List Nd} {x0:Nd} (h0:l[0]?=some x0):mI l=true↔(x0.kind=1/\x0.size=l.length/\∀ n x,l[n]?=some x->kQ l n x=true):=by
 unfold mI;rw[h0];simp only[cb,eg,fm,List.mem_range];refine and_congr_right λ _=>and_congr_right λ _=>⟨λ h n x hx=>?_,λ h n hn=>?_⟩
 . have:=h n (dp.1 hx).1;rw[hx]at this; exact this
 . obtain⟨x,hx⟩:∃ x,l[n]?=some x:=⟨l[n],by simp[hn]⟩;rw[hx]; exact h n x hx
theorem TQ {l:List Nd} {n:Nat} {x:Nd} (hx:l[n]?=some x) (h:kQ l n x=false):mI l=false:=by
 cases h0:l[0]? with
 | none=>unfold mI; rw[h0]
 | some x0 =>
   cases hr:mI l with
   | false=>rfl
   | true=>rw[((u6 h0).1 hr).2.2 n x hx]at h; cases h
theorem QO {v:AV} {l:List Nd} (hv:eW v l.length (cg l)) (hc:closed v=true) (hl:l.length<=10000) (jV:∀ x∈l,x.text.length<=3000):Pure K 68 [.agg [v]] (.bool (mI l)):=by
 refine Pure.of (by simp[cD,closed,hc]) rfl (λ U=>rfl) λ R hR=>?_;refine Yr ?_;unfold aaw;rw[gd rfl];intro b1 iN;have m1:((bU ⟨.e,0⟩).new b1 (.box (av (.agg [v])))).box b1=some [v]:=aD;generalize (bU _).new b1 _=ar at *;clear iN;refine jL (jL (eZ m1 rfl ?_));rw[hv.len,aJ,bA,aJ];cases h0:l[0]? with
 | none =>
   have rY:l.length=0:=by simpa using h0
   have hq:mI l=false:=by unfold mI; rw[h0]
   simp only[rY,Int.natCast_zero,dG,bo,show (true==false)=false from rfl,aP,cN,aQ,if_true,rV,aJ];exact dz (aq.mk (by rw[<- hq]; exact hR _))
 | some x0 =>
   have rY:0<l.length:=(dp.1 h0).1;have ca:¬ ((l.length:Int)=0):=by omega
   have hQ:mI l=(decide (x0.kind=1)&&(decide (x0.size=((l.length:Nat):Int))&&(List.range l.length).all λ n=>match l[n]? with|some x=>kQ l n x|none=>true)):=by unfold mI; rw[h0]
   simp only[ca,eS,bo,iY,aP,cB];refine jL (jL (eZ m1 rfl ?_));refine DP (i:=0) hv h0 λ r=>?_;simp only[dC,aJ,eG,qf,dA,dK,jE,c8,aQ,bZ,if_false]
   by_cases hk:x0.kind=1
   rotate_left
   . simp only[hk,eS,fx,bo,show (true==false)=false from rfl,aP,cN,aQ,if_true,rV,aJ];exact dz (aq.mk (by rw[show false=mI l by rw[hQ]; simp[hk]]; exact hR _))
   simp only[hk,dG,dm,bo,iY,aP,cB];refine jL (jL (eZ m1 rfl ?_));refine DP (i:=0) hv h0 λ r=>?_;simp only[dC,aJ,List.drop,qf,dA,dK,jE];refine jL (jL (eZ m1 rfl ?_));rw[hv.len,aJ,c8,aJ];simp only[aQ,bZ,if_false,aJ]
   by_cases hs:x0.size=l.length
   rotate_left
   . simp only[hs,eS,fx];exact dz (aq.mk (by rw[show false=mI l by rw[hQ]; simp[hk,hs]]; exact hR _))
   simp only[hs,dG,dm];refine cY (Et.go ?_);simp only[bh,al,db];refine ej m1 rfl ?_;rw[hv.len,al];refine⟨λ m v1 v3 ij v37 ad=>∃ i:Nat,m=l.length-i/\i<=l.length/\v1=.box b1 0/\v3=qU/\ij=.int .i64 l.length/\v37=.int .i64 (i:Nat)/\ad=ar/\∀ j x,j<i->l[j]?=some x->kQ l j x=true,⟨_,0,rfl,by omega,rfl,rfl,rfl,rfl,rfl,λ j x h=>by omega⟩,?_⟩;rintro m v1 v3 ij v37 ad ⟨i,rfl,hi,rfl,rfl,rfl,rfl,rfl,ck⟩;simp only[bV,al];refine ic (λ aN=>?_) λ kV=>?_
   . have aN:i<l.length:=by omega
     obtain⟨x,hx⟩:∃ x,l[i]?=some x:=⟨l[i],by simp[aN]⟩;rw[ph m1];refine⟨by simp,?_⟩;refine (Tn hv hc hx hl (jV x (gw hx))).go ?_;simp only[eT,al];cases hq:kQ l i x with
     | false=>exact dz (aq.mk (by rw[<- TQ hx hq]; exact hR _))
     | true =>
       refine cY ?_;rw[dO];refine⟨bI (by omega) (by omega),l.length-(i+1),by omega,i+1,rfl,by omega,rfl,rfl,rfl,by simp,rfl,λ j y hj hy=>?_⟩
       by_cases h:j=i
       . subst h; rw[hx]at hy; cases hy; exact hq
       . exact ck j y (by omega) hy
   . refine aq.mk ?_;have:mI l=true:=(u6 h0).2 ⟨hk,hs,λ n x hx=>ck n x (by have:=(dp.1 hx).1; omega) hx⟩;rw[<- this]; exact hR _
theorem El {v:AV} {l:List Nd} (hv:eW v l.length (cg l)) (hc:closed v=true) (hl:l.length<=10000) (jV:∀ x∈l,x.text.length<=3000):Pure K 30 [.agg [v]] (.int .i64 (fR l)):=by
 refine Pure.of (by simp[cD,closed,hc]) rfl (λ U=>rfl) λ R hR=>?_;refine Yg ?_;unfold aal;rw[gd rfl];intro b1 iN;have m1:((bU ⟨.e,0⟩).new b1 (.box (av (.agg [v])))).box b1=some [v]:=aD;generalize (bU _).new b1 _=ar at *;clear iN;simp only[bh,al,db];refine ej m1 rfl ?_;rw[hv.len,al];simp only[eM,al];refine ic (λ uN=>?_) λ hle=>?_
 . refine aq.mk ?_;have:fR l=5:=by unfold fR; rw[if_pos (by omega)]
   rw[<- this]; exact hR _
 rw[ph m1];refine⟨by simp,?_⟩;refine pK [v] rfl ?_;refine (QO hv hc hl jV).go ?_;simp only[eT,al];have h9:¬ 900<l.length:=by omega
 cases hq:mI l with
 | false =>
   refine dz (aq.mk ?_);have:fR l=4:=uW h9 λ h=>by
    obtain⟨t,rfl,h2,h3⟩:=h;obtain⟨x,r,e,_⟩:=t.rU;have h0:t.flat[0]?=some x:=by rw[e]; rfl
    rw[(u6 h0).2 ((Ir h0).2 ⟨t,rfl,h2,h3⟩)]at hq;cases hq
   rw[<- this]; exact hR _
 | true =>
   refine cY ?_;rw[ph m1];refine⟨by simp,?_⟩;cases h0:l[0]? with
   | none=>unfold mI at hq; rw[h0]at hq; cases hq
   | some x0 =>
     have hr:=(u6 h0).1 hq;obtain⟨t,rfl,h2,h3⟩:=(Ir h0).1 hr;have ca:t.flat≠[]:=by intro e; rw[e]at h0; cases h0
     have fH:=(C8 ca (by
      obtain⟨y,r,e,_⟩:=t.rU;rw[e]at h0 ⊢; simp at h0; subst h0; have:=hr.2.1; rw[e]at this; exact this) hr.2.2)
     refine (Eu hv hc (by omega) ca (λ x hx=>?_) ?_).go ?_
     . obtain⟨n,hn,rfl⟩:=List.getElem_of_mem hx;have:=fH.1.2.2 n t.flat[n] (by simp[hn]);omega
     . have:=fH.1.2.1; omega
     . rw[xl];have Xk:fR t.flat=if 60<t.deep\/24<t.kids.length then 5 else 0:=by
        rw[AB t h9]; unfold Dt; rw[if_neg (by simp[h2,h3])]
       rw[Xk]at hR
       by_cases hg:60<t.deep\/24<t.kids.length
       . rw[if_pos hg]at hR;have:(decide (60<t.deep)||decide (24<t.kids.length))=true:=by simpa using hg
         rw[this];exact dz (aq.mk (hR _))
       . rw[if_neg hg]at hR;have:(decide (60<t.deep)||decide (24<t.kids.length))=false:=by simpa using hg
         rw[this];exact cY (aq.mk (hR _))
end Go.Rip
