/- Lemmas for the proof: no conditions. -/
import Derived.Test.YtnfpmiiopiinbaaGreatDoorRipZz
import Derived.Test.YtnfpmiiopiinbaaGreatDoorRipY
import Derived.Test.YtnfpmiiopiinbaaGreatDoorRipQ
set_option linter.unusedVariables false
set_option linter.unusedSimpArgs false
set_option linter.loopingSimpArgs false
namespace Go.Rip
open Go.Proofs Go.RowKit
def tm:List Int:=(List.range 37).map λ i=>((i:Nat):Int)+1
theorem IQ {k:Int} (h:k<1\/37<k):∀ j∈tm,j≠k:=by
 intro j hj;simp only[tm,List.mem_map,List.mem_range]at hj;obtain⟨i,hi,rfl⟩:=hj;omega
theorem KK:∃ vs,nB=.eD (tm.map (.int .u8)) vs:=⟨_,by unfold nB tm; rfl⟩
theorem look_ok (k:Int) (U:St):fB (some (.i,204)) (some (.agg [AV.bool false,AV.bool false,AV.bool false,AV.ag])) nB (.int .u8 k) true U=.val (match eI k with|some f=>.aQ [.agg (lI f),.bool true]|none=>.aQ [Ge,.bool false]):=by
 obtain⟨vs,wy⟩:=KK;rw[wy];show kX .i (.int .u8 k) Ge true (tm.map (.int .u8)) vs=_
 by_cases h:k<1\/37<k
 . rw[sL h];exact CI tm vs (IQ h)
 . obtain⟨n,rfl⟩:∃ n:Nat,k=n:=⟨k.toNat,by omega⟩;have:=JI ⟨n,by omega⟩;unfold LY at this;rw[wy]at this;simp only at this;split at this
   . rename_i v hv;rw[hv,ti this];cases eI n<;>rfl
   . cases this
theorem gx.aa2 {U:St} {v:AV} {l:List Nd} (h:gx v l.length (cb l)):mY U v l:=by
 rcases h with ⟨h0,_,h1⟩|⟨c,h1⟩
 . exact .inl (.inl ⟨h1,oQ.1 h0⟩)
 . exact .inl (.inr ⟨c,h1⟩)
theorem Ed {k:Int} {f:DK} (h:eI k=some f):f.kids.length<=100/\∀ s∈f.kids,s.least<=1000/\s.nT<=1000:=by
 have hk:1<=k/\k<=37:=by
  by_cases h1:k<1\/37<k
  . rw[sL h1]at h; cases h
  . omega
 obtain⟨n,rfl⟩:∃ n:Nat,k=n:=⟨k.toNat,by omega⟩;have all:∀ n:Fin 38,(match eI ((n.val:Nat):Int) with|some f=>decide (f.kids.length<=100)&&f.kids.all λ s=>decide (s.least<=1000/\s.nT<=1000)|none=>true)=true:=by decide +kernel
 have:=all ⟨n,by omega⟩;simp only[h,bV,dJ,eH]at this;exact this
def kg (U:St) (bs:List (Nat×List AV)):Prop:=∀ p∈bs,U.box p.1=some p.2
section
variable {U ad:St} {bs:List (Nat×List AV)} {b:Nat} {x:List AV}
theorem kg.D7 (h:kg U bs) (e:cG U ad):kg ad bs:=λ p hp=>e.bf (h p hp)
theorem kg.cons (h:kg U bs) (k:U.box b=some x):kg U ((b,x)::bs):=λ p hp=>by
 rcases fe.1 hp with rfl|hp
 . exact k
 . exact h p hp
theorem kg.set (h:kg U bs) (hb:∀ p∈bs,p.1≠b) {y:Live}:kg (U.set b y) bs:=λ p hp=>by
 rw[aM (hb p hp)]; exact h p hp
theorem kg.del (h:kg U bs) (hb:∀ p∈bs,p.1≠b):kg (U.del b) bs:=λ p hp=>by
 rw[iD (hb p hp)]; exact h p hp
theorem kg.fresh (h:kg U bs) (f:U.cV b):∀ p∈bs,p.1≠b:=λ p hp=>f.bP (h p hp)
end
theorem Y5 {e:TypeId} {x:AV} {z:AV} {kq:AV->Prop} (hx:x.cA=true) (hc:au x=[x]) (hk:kq (.vec 1 .full [x])):ao K (aF (some (e,1)) (some [z]) 1 false [(0,x)]) kq:=by
 rw[zk];refine⟨by omega,?_⟩;rw[wY (o:=0) (s:=1) rfl];refine⟨⟨hx,by rw[hc]; rfl,by simp[bN]⟩,?_⟩;rw[BI,hc];exact⟨rfl,hk⟩
theorem gC.loop {az U:St} {v:AV} {e:TypeId} {sz n:Nat} {l:List AV} {o:Nat} {L L':eY} (h:gC az U v e sz n l) (ho:U.loop o=some L) (hx:cG az (U.set o (.loop L'))):gC az (U.set o (.loop L')) v e sz n l:=by
 refine⟨?_,h.z,h.t,hx⟩;rcases h.g with g|⟨τ,r1,r2,r3⟩
 . exact .inl g
 . refine .inr ⟨τ,r1,?_,r3⟩;rw[iL]; exact r2;rintro rfl;unfold St.tok at r2; unfold St.loop at ho;split at ho
   . rename_i e; simp[e]at r2
   . cases ho
theorem EW {l:List Nd} {ks:List Nat} {k:Nat} {x:Nd} (h:l[k]?=some x):fS l (ks++[k])=fS l ks++[x.kind]:=by simp[fS,h]
theorem Th {U:St} {R:cM->St->Prop} {v:AV} {l:List Nd} {n:Nat} {x:Nd} (hv:gx v l.length (cb l)) (hx:l[n]?=some x) (hl:l.length<=10000) (sc:x.text.length<=3000) (nD:∀ ad,cG U ad)
 (h:∀ ad,cG U ad->R (.ret (.bool (gN l n x))) ad):ae K 131 [.agg [v],.int .i64 (n:Nat),nB] U R:=by
 refine MM ?_;unfold ML;have Z2:=(dp.1 hx).1;rw[fY rfl];intro b3 kL;have k3:(U.new b3 (.box (au (.agg [v])))).box b3=some [v]:=aI;have e1:=bC kL (x:=.box (au (.agg [v])));generalize U.new b3 (.box (au (.agg [v])))=bF at *;rw[fY rfl];intro b4 pU;have k4:(bF.new b4 (.box (au (.int .i64 (n:Nat))))).box b4=some [.int .i64 (n:Nat)]:=aI;have Fe:=pU.bP k3;have e2:=e1.new pU (x:=.box (au (.int .i64 (n:Nat))));have k3:=(bC pU (x:=.box (au (.int .i64 (n:Nat))))).bf k3;generalize bF.new b4 (.box (au (.int .i64 (n:Nat))))=bI at *;rw[cK];intro b6 o6;have k6:(bI.new b6 (.box [.bool false])).box b6=some [.bool false]:=aI;have n36:=o6.bP k3;have n46:=o6.bP k4;have f6:U.live b6=none:=e2.fresh o6.1;have e3:=e2.new o6 (x:=.box [.bool false]);have k3:=(bC o6 (x:=.box [.bool false])).bf k3;have k4:=(bC o6 (x:=.box [.bool false])).bf k4;generalize bI.new b6 (.box [.bool false])=cj at *;simp only[aN,ak,cq];refine gq k3 rfl ?_;refine gq k4 rfl ?_;refine Kb hv hx λ r=>?_;rw[tZ];refine⟨by simp[df],?_⟩;have Ej:(df x++r).take 6=df x:=by simp[df]
 rw[Ej,cK];intro b7 qs;have k7:(cj.new b7 (.box [AV.int .u8 0,AV.str [],AV.int .i64 0,AV.int .i64 0,AV.int .i64 0,AV.int .i64 0])).box b7=some [AV.int .u8 0,AV.str [],AV.int .i64 0,AV.int .i64 0,AV.int .i64 0,AV.int .i64 0]:=aI;have n37:=qs.bP k3;have n47:=qs.bP k4;have n67:=qs.bP k6;have f7:U.live b7=none:=e3.fresh qs.1;have e4:=e3.new qs (x:=.box [AV.int .u8 0,AV.str [],AV.int .i64 0,AV.int .i64 0,AV.int .i64 0,AV.int .i64 0]);have en:=bC qs (x:=.box [AV.int .u8 0,AV.str [],AV.int .i64 0,AV.int .i64 0,AV.int .i64 0,AV.int .i64 0]);have k3:=en.bf k3;have k4:=en.bf k4;have k6:=en.bf k6;clear en;generalize cj.new b7 (.box [AV.int .u8 0,AV.str [],AV.int .i64 0,AV.int .i64 0,AV.int .i64 0,AV.int .i64 0])=cm at *;rw[cL k7];refine⟨⟨rfl,rfl,by simp[df]⟩,?_⟩;have j7:(cm.set b7 (.box (ax [AV.int .u8 0,AV.str [],AV.int .i64 0,AV.int .i64 0,AV.int .i64 0,AV.int .i64 0] 0 (au (.agg (df x)))))).box b7=some (df x):=by rw[aX]; rfl
 have k3:(cm.set b7 (.box (ax [AV.int .u8 0,AV.str [],AV.int .i64 0,AV.int .i64 0,AV.int .i64 0,AV.int .i64 0] 0 (au (.agg (df x)))))).box b3=some [v]:=by rw[aM n37]; exact k3
 have k4:(cm.set b7 (.box (ax [AV.int .u8 0,AV.str [],AV.int .i64 0,AV.int .i64 0,AV.int .i64 0,AV.int .i64 0] 0 (au (.agg (df x)))))).box b4=some [.int .i64 (n:Nat)]:=by rw[aM n47]; exact k4
 have k6:(cm.set b7 (.box (ax [AV.int .u8 0,AV.str [],AV.int .i64 0,AV.int .i64 0,AV.int .i64 0,AV.int .i64 0] 0 (au (.agg (df x)))))).box b6=some [.bool false]:=by rw[aM n67]; exact k6
 have e5:=e4.set f7 (x:=.box (ax [AV.int .u8 0,AV.str [],AV.int .i64 0,AV.int .i64 0,AV.int .i64 0,AV.int .i64 0] 0 (au (.agg (df x)))));generalize cm.set b7 (.box (ax [AV.int .u8 0,AV.str [],AV.int .i64 0,AV.int .i64 0,AV.int .i64 0,AV.int .i64 0] 0 (au (.agg (df x)))))=cY at *;clear k7 kL pU o6 qs e1 e2 e3 e4;refine gq j7 rfl ?_;rw[look_ok,ak];have ret:∀ (q:Bool) (ad:St),cG U ad->(∃ y,ad.box b6=some [y])->gN l n x=q->(aG (some (false,1)) (.box b6 0) (.bool q) ad).wp K ad (λ _ U=>bE (some (false,1)) (.box b6 0) U λ r0=>aq R r0 U) (aa R):=by
  intro q ad e ⟨y,hy⟩ hq;rw[cL hy];refine⟨⟨rfl,rfl,by simp⟩,?_⟩;rw[FA aX rfl];subst hq;exact aq.mk (h _ (e.set f6))
 cases hf:eI x.kind with
 | none =>
   have hq:gN l n x=false:=by unfold gN; rw[hf]
   simp only[bh,List.drop,bl,Ge];rw[cK];intro b8 qt;have k8:(cY.new b8 (.box [AV.bool false,AV.bool false,AV.bool false,AV.ag])).box b8=some [AV.bool false,AV.bool false,AV.bool false,AV.ag]:=aI;have WG:=qt.bP k6;have e6:=e5.new qt (x:=.box [AV.bool false,AV.bool false,AV.bool false,AV.ag]);have f8:U.live b8=none:=e5.fresh qt.1;have k6:=(bC qt (x:=.box [AV.bool false,AV.bool false,AV.bool false,AV.ag])).bf k6;generalize cY.new b8 (.box [AV.bool false,AV.bool false,AV.bool false,AV.ag])=kP at *;rw[cL k8];refine⟨⟨rfl,rfl,by simp⟩,?_⟩;simp only[dr,ak,dZ,bj,show (true==false)=false from rfl,aP,cz,oc,aO,if_true];exact ez (ret false _ (e6.set f8) ⟨.bool false,by rw[aM WG]; exact k6⟩ hq)
 | some f =>
   simp only[bh,List.drop,bl];rw[cK];intro b8 qt;have k8:(cY.new b8 (.box [AV.bool false,AV.bool false,AV.bool false,AV.ag])).box b8=some [AV.bool false,AV.bool false,AV.bool false,AV.ag]:=aI;have n38:=qt.bP k3;have n48:=qt.bP k4;have WG:=qt.bP k6;have n78:=qt.bP j7;have e6:=e5.new qt (x:=.box [AV.bool false,AV.bool false,AV.bool false,AV.ag]);have f8:U.live b8=none:=e5.fresh qt.1;have en:=bC qt (x:=.box [AV.bool false,AV.bool false,AV.bool false,AV.ag]);have k3:=en.bf k3;have k4:=en.bf k4;have k6:=en.bf k6;have j7:=en.bf j7;clear en;generalize cY.new b8 (.box [AV.bool false,AV.bool false,AV.bool false,AV.ag])=kP at *;have En:(lI f).length=4:=rfl;rw[cL k8];refine⟨⟨rfl,rfl,by simp[En]⟩,?_⟩;have j8:(kP.set b8 (.box (ax [AV.bool false,AV.bool false,AV.bool false,AV.ag] 0 (au (.agg (lI f)))))).box b8=some (lI f):=by rw[aX]; rfl
   have k3:(kP.set b8 (.box (ax [AV.bool false,AV.bool false,AV.bool false,AV.ag] 0 (au (.agg (lI f)))))).box b3=some [v]:=by rw[aM n38]; exact k3
   have k4:(kP.set b8 (.box (ax [AV.bool false,AV.bool false,AV.bool false,AV.ag] 0 (au (.agg (lI f)))))).box b4=some [.int .i64 (n:Nat)]:=by rw[aM n48]; exact k4
   have k6:(kP.set b8 (.box (ax [AV.bool false,AV.bool false,AV.bool false,AV.ag] 0 (au (.agg (lI f)))))).box b6=some [.bool false]:=by rw[aM WG]; exact k6
   have j7:(kP.set b8 (.box (ax [AV.bool false,AV.bool false,AV.bool false,AV.ag] 0 (au (.agg (lI f)))))).box b7=some (df x):=by rw[aM n78]; exact j7
   have e7:=e6.set f8 (x:=.box (ax [AV.bool false,AV.bool false,AV.bool false,AV.ag] 0 (au (.agg (lI f)))));generalize kP.set b8 (.box (ax [AV.bool false,AV.bool false,AV.bool false,AV.ag] 0 (au (.agg (lI f)))))=jZ at *;clear k8 qt e5 e6;have hQ:gN l n x=(decide (1<=x.size/\x.size<=(l.length:Int)-n)&&(dv x f&&((eZ l ((n:Int)+x.size) l.length (n+1)).all (λ k=>decide (1<=eN l k/\(k:Int)+eN l k<=n+x.size)) &&
    (decide (((behind l (n+1) (eZ l ((n:Int)+x.size) l.length (n+1)):Nat):Int)=n+x.size)&&gS (fS l (eZ l ((n:Int)+x.size) l.length (n+1))) f.kids)))):=by unfold gN; rw[hf]
   simp only[dr,ak,cT,bj,ib,aP,cn,aD];have hlen:bR (some false) v=.val (.int .i64 l.length):=hv.len;refine kD (eL k3 rfl ?_);rw[hlen,aD];refine eL k4 rfl ?_;rw[jP,fx,gP,aD];refine⟨bD (by omega) (by omega),?_⟩;refine kD (eL j7 rfl (tQ (nJ _ _ _) ?_));simp only[dr,aD,aO,bQ,if_false,ak];have bad:gN l n x=false->(aG (some (false,1)) (.box b6 0) (.bool false) jZ).wp K jZ (λ _ U=>bE (some (false,1)) (.box b6 0) U λ r0=>aq R r0 U) (aa R):=λ hq=>ret false _ e7 ⟨_,k6⟩ hq
   by_cases hw:1<=x.size/\x.size<=(l.length:Int)-n
   rotate_left
   . simp only[hw,dz,dZ,bj,show (true==false)=false from rfl,aP,cz,oc,aO,if_true,ak];exact ez (bad (by rw[hQ,decide_eq_false hw]; rfl))
   rw[decide_eq_true hw,Bool.true_and]at hQ;simp only[hw,dq,cT,bj,ib,aP,cn];simp only[and_self,dq,cT,bj,ib,aP,cn];refine kD (eL j8 rfl (kD (eL j7 rfl ?_)));rw[pB,aD,DV,aD];have hwt:(!decide (x.text=w_))=decide (x.text≠[]):=by
    by_cases h:x.text=[]<;>simp[h,w_]
   rw[hwt];simp only[aO,bQ,if_false,ak];have r9:dv x f=((f.text==decide (x.text≠[]))&&((!f.text||jk x.text)&&(fJ x.n&&(fJ x.m&&((f.n||decide (x.n=0))&&(f.m||decide (x.m=0))))))):=by
    unfold dv;have e0:(x.text != [])=decide (x.text≠[]):=by by_cases h:x.text=[]<;>simp[h]
    have e1:(x.n==0)=decide (x.n=0):=by by_cases h:x.n=0<;>simp[h]
    have e2:(x.m==0)=decide (x.m=0):=by by_cases h:x.m=0<;>simp[h]
    rw[e0,e1,e2]; simp only[Bool.and_assoc]
   cases ht:(f.text != decide (x.text≠[])) with
   | true =>
     simp only[bj,show (true==false)=false from rfl,aP,cz,oc,aO,if_true,ak];refine ez (bad ?_);have:(f.text==decide (x.text≠[]))=false:=by revert ht; cases f.text<;>cases decide (x.text≠[])<;>simp
     rw[hQ,r9,this]; rfl
   | false =>
   have qu:(f.text==decide (x.text≠[]))=true:=by revert ht; cases f.text<;>cases decide (x.text≠[])<;>simp
   rw[qu,Bool.true_and]at r9;simp only[bj,ib,aP,cn];refine kD (eL j8 rfl ?_);simp only[aD];have nm:∀ (A:Prop),((!f.text||jk x.text)=true->A) ->
    af K (aB (.bool f.text) true) (ah (some 1) (.box b7 0)) (λ qx =>
    af K (aB (.bool f.text) true) (ar (some (false,1)) qx jZ) (λ v53 =>
    af K (aB (.bool f.text) true) (ay.enter 208 [v53]) (λ p9 =>
    af K (aB (.bool f.text) true) (ig .not p9) (λ sD =>
    ao K (bu (.bool f.text) sD (.bool false)) (λ jY =>
    aA (if false=true then AV.bool true else jY) ((aG (some (false,1)) (.box b6 0) (.bool false) jZ).wp K jZ (λ _ U=>bE (some (false,1)) (.box b6 0) U λ r0=>aq R r0 U) (aa R)) A))))):=by
    intro A hA;cases Hp:f.text with
    | false =>
      simp only[bj,show (false==true)=false from rfl,aP,cz,aO,bQ,if_false,aD,ak];exact eV (hA (by rw[Hp]; rfl))
    | true =>
      simp only[bj,ib,aP,cn];refine kD (eL j7 rfl (tQ (JM _ sc) ?_));simp only[dr,aD,aO,if_true,bQ,if_false,ak];cases Cj:jk x.text with
      | true=>exact eV (hA (by rw[Hp,Cj]; rfl))
      | false=>exact ez (bad (by rw[hQ,r9,Hp,Cj]; rfl))
   refine nm _ λ Cj=>?_;clear nm;rw[Cj,Bool.true_and]at r9;simp only[aN,ak,cq];refine gq j7 rfl ((nJ _ _ _).go ?_);have K4:∀ a:Int,decide (0<=a/\a<=1000000)=fJ a:=λ _=>rfl;rw[K4];simp only[dr,ak];cases hN:fJ x.n with
   | false =>
     simp only[dZ,bj,show (true==false)=false from rfl,aP,cz,oc,aO,if_true,ak];exact ez (bad (by rw[hQ,r9,hN]; rfl))
   | true =>
   rw[hN,Bool.true_and]at r9;simp only[cT,bj,ib,aP,cn,aD];refine eL j7 rfl (tQ (nJ _ _ _) ?_);rw[K4];simp only[dr,aD,aO,bQ,if_false,ak];cases hM:fJ x.m with
   | false =>
     simp only[dZ,bj,show (true==false)=false from rfl,aP,cz,oc,aO,if_true,ak];exact ez (bad (by rw[hQ,r9,hM]; rfl))
   | true =>
   rw[hM,Bool.true_and]at r9;simp only[cT,bj,ib,aP,cn,aD];refine eL j8 rfl ?_;simp only[dr,aD];have Sn:∀ (kq:AV->Prop),((f.n||decide (x.n=0))=true->kq (.bool false))->((f.n||decide (x.n=0))=false->kq (.bool true)) ->
    af K (aB (.bool !f.n) true) (.val (.box b7 2)) (λ xw=>af K (aB (.bool !f.n) true) (ar (some (false,1)) xw jZ) λ tX=>af K (aB (.bool !f.n) true) (aw .neq (BT.mk false false false none false) true tX (AV.int .i64 0)) λ v75 =>
     ao K (bu (.bool !f.n) v75 (.bool false)) kq):=by
    intro kq h1 h2;cases hfn:f.n with
    | true =>
      simp only[cT,bj,show (false==true)=false from rfl,aP,cz,aO,bQ,if_false,aD];exact h1 (by rw[hfn]; rfl)
    | false =>
      simp only[dZ,bj,ib,aP,cn,aD];refine eL j7 rfl ?_;rw[cP,aD];simp only[aO,if_true,aD]
      by_cases h0:x.n=0
      . simp only[h0,dq,cT]; exact h1 (by simp[h0])
      . simp only[h0,dz,dZ]; exact h2 (by rw[hfn]; simp[h0])
   have Sm:∀ (kq:AV->Prop),((f.m||decide (x.m=0))=true->kq (.bool false))->((f.m||decide (x.m=0))=false->kq (.bool true)) ->
    af K (aB (.bool !f.m) true) (.val (.box b7 3)) (λ xw=>af K (aB (.bool !f.m) true) (ar (some (false,1)) xw jZ) λ tX=>af K (aB (.bool !f.m) true) (aw .neq (BT.mk false false false none false) true tX (AV.int .i64 0)) λ v75 =>
     ao K (bu (.bool !f.m) v75 (.bool false)) kq):=by
    intro kq h1 h2;cases hfn:f.m with
    | true =>
      simp only[cT,bj,show (false==true)=false from rfl,aP,cz,aO,bQ,if_false,aD];exact h1 (by rw[hfn]; rfl)
    | false =>
      simp only[dZ,bj,ib,aP,cn,aD];refine eL j7 rfl ?_;rw[cP,aD];simp only[aO,if_true,aD]
      by_cases h0:x.m=0
      . simp only[h0,dq,cT]; exact h1 (by simp[h0])
      . simp only[h0,dz,dZ]; exact h2 (by rw[hfn]; simp[h0])
   refine Sn _ (λ hn=>?_) λ hn=>?_
   rotate_left
   . simp only[bQ,if_false,bj,show (true==false)=false from rfl,aP,cz,oc,aO,if_true,ak];exact ez (bad (by rw[hQ,r9,hn]; rfl))
   rw[hn,Bool.true_and]at r9;simp only[bQ,if_false,bj,ib,aP,cn,aD];refine eL j8 rfl ?_;simp only[dr,aD];refine Sm _ (λ hm=>?_) λ hm=>?_
   rotate_left
   . simp only[bQ,if_false,aO,if_true,ak];exact ez (bad (by rw[hQ,r9,hm]; rfl))
   rw[hm]at r9;rw[r9,Bool.true_and]at hQ;simp only[bQ,if_false,aO,ak];refine eV ?_;clear Sn Sm r9 bad;rw[cK];intro iM y5;have H7:kg jZ [(b3,[v]),(b4,[.int .i64 (n:Nat)]),(b6,[.bool false]),(b7,df x),(b8,lI f)] :=
    (((((show kg jZ [] from λ p hp=>by cases hp).cons j8).cons j7).cons k6).cons k4).cons k3
   have CB:(jZ.new iM (.box [.ag])).box iM=some [.ag]:=aI;have aaL:=H7.fresh y5;have H8:=H7.D7 (bC y5 (x:=.box [.ag]));generalize jZ.new iM (.box [.ag])=ue at *;clear y5 H7;refine gq (H8 (b4,[.int .i64 (n:Nat)]) (by simp)) rfl ?_;rw[dm];refine⟨bD (by omega) (by omega),?_⟩;rw[cK];intro hZ sO;have RG:(ue.new hZ (.box [.int .i64 0])).box hZ=some [.int .i64 0]:=aI;have V4:=(H8.cons CB).fresh sO;have H9:=H8.D7 (bC sO (x:=.box [.int .i64 0]));have CB:=(bC sO (x:=.box [.int .i64 0])).bf CB;generalize ue.new hZ (.box [.int .i64 0])=qg at *;clear sO H8;rw[cL RG];refine⟨⟨rfl,rfl,by simp⟩,?_⟩;have Rm:∀ p∈[(b3,[v]),(b4,[.int .i64 (n:Nat)]),(b6,[.bool false]),(b7,df x),(b8,lI f)],p.1≠hZ:=λ p hp=>V4 p (List.mem_cons_of_mem _ hp);have JD:iM≠hZ:=V4 (iM,_) (List.mem_cons_self ..);have TN:=H9.set Rm (y:=.box (ax [AV.int .i64 0] 0 (au (.int .i64 ((n:Int)+1)))));have CB:(qg.set hZ (.box (ax [AV.int .i64 0] 0 (au (.int .i64 ((n:Int)+1)))))).box iM=some [.ag]:=by rw[aM JD]; exact CB
   have RG:(qg.set hZ (.box (ax [AV.int .i64 0] 0 (au (.int .i64 ((n:Int)+1)))))).box hZ=some [.int .i64 ((n:Int)+1)]:=by rw[aX]; rfl
   generalize qg.set hZ (.box (ax [AV.int .i64 0] 0 (au (.int .i64 ((n:Int)+1)))))=td at *;clear H9;rw[mR (TN (b3,[v]) (by simp))];refine⟨by simp,?_⟩;refine gq (TN (b4,[.int .i64 (n:Nat)]) (by simp)) rfl ?_;refine za (n:=n) (x:=x) hv hx (bD (by omega) (by omega)) λ bn be bt ac7 d1 d2 d3 f1 f2 f3 q1 q2 q3 wb=>?_;simp only[bA];have H11:=(((TN.D7 wb).cons q3).cons q2).cons q1;have CB:=wb.bf CB;have aa1:=wb.bf RG;have WL:∀ b y,td.box b=some y->b≠bn/\b≠be/\b≠bt:=λ b y hb =>
    ⟨λ e=>dA hb (e▸f1),λ e=>dA hb (e▸f2),λ e=>dA hb (e▸f3)⟩
   have YV:∀ p∈[(bn,[AV.int .i64 (n:Nat)]),(be,[.int .i64 ((n:Int)+x.size)]),(bt,[v]),(b3,[v]),(b4,[.int .i64 (n:Nat)]),(b6,[.bool false]),(b7,df x),(b8,lI f)],p.1≠iM:=by
    intro p hp;have g:=WL iM _ (by assumption);simp only[fe]at hp;rcases hp with rfl|rfl|rfl|hp
    . exact g.1.symm
    . exact g.2.1.symm
    . exact g.2.2.symm
    . exact aaL p (by simpa using hp)
   have YW:∀ p∈[(bn,[AV.int .i64 (n:Nat)]),(be,[.int .i64 ((n:Int)+x.size)]),(bt,[v]),(b3,[v]),(b4,[.int .i64 (n:Nat)]),(b6,[.bool false]),(b7,df x),(b8,lI f)],p.1≠hZ:=by
    intro p hp;have g:=WL hZ _ RG;simp only[fe]at hp;rcases hp with rfl|rfl|rfl|hp
    . exact g.1.symm
    . exact g.2.1.symm
    . exact g.2.2.symm
    . exact Rm p (by simpa using hp)
   generalize KT:[(bn,[AV.int .i64 (n:Nat)]),(be,[.int .i64 ((n:Int)+x.size)]),(bt,[v]),(b3,[v]),(b4,[.int .i64 (n:Nat)]),(b6,[.bool false]),(b7,df x),(b8,lI f)]=bs at *;have mem:∀ {ad:St},kg ad bs->ad.box bn=some [.int .i64 (n:Nat)]/\ad.box be=some [.int .i64 ((n:Int)+x.size)]/\ad.box bt=some [v]/\ad.box b3=some [v]/\ad.box b4=some [.int .i64 (n:Nat)]/\ad.box b6=some [.bool false]/\ad.box b7=some (df x)/\ad.box b8=some (lI f):=by
    intro ad hH;subst KT;exact⟨hH (bn,[.int .i64 (n:Nat)]) (by simp),hH (be,[.int .i64 ((n:Int)+x.size)]) (by simp),hH (bt,[v]) (by simp),hH (b3,[v]) (by simp),hH (b4,[.int .i64 (n:Nat)]) (by simp),hH (b6,[.bool false]) (by simp),hH (b7,df x) (by simp),hH (b8,lI f) (by simp)⟩
   have ZZ:∀ {ad:St} {o:Nat} {L:eY},kg ad bs->ad.loop o=some L->∀ p∈bs,p.1≠o:=λ hH ho p hp=>bY (hH p hp) ho;refine uZ (λ ks ad=>kg ad bs/\(∃ vk,ad.box iM=some [vk]/\gC U ad vk 5 1 ks.length (lK (fS l ks)))/\ad.box hZ=some [.int .i64 ((behind l (n+1) ks:Nat):Int)]/\ks.all (λ k=>decide (1<=eN l k/\(k:Int)+eN l k<=n+x.size))=true) (λ ad=>ad.box b6=some [.bool false]/\gN l n x=false) hv Z2 (by omega) (by omega)
    (λ ks ad hI=>⟨(mem hI.1).1,(mem hI.1).2.1,(mem hI.1).2.2.1⟩) (λ ks ad o L L' hI ho=>?_) (λ ks ad o L hI ho=>?_) (λ ad o L L' hJ ho=>?_) (λ ks kN y ad o L1 q hI hy aL qk Z1 Es sP hL V8 Z7=>?_) (λ ks ad o L kM hI hL=>?_) (λ ad o L hJ hL=>?_) ⟨H11,⟨_,CB,by simpa [fS,lK] using gC.nil (nD _)⟩,by simpa [behind] using aa1,rfl⟩
   . obtain⟨hH,⟨vk,kr,mV⟩,nC,b0⟩:=hI;exact⟨hH.set (ZZ hH ho),⟨vk,by rw[aM (bY kr ho)]; exact kr,mV.loop ho (nD _)⟩,by rw[aM (bY nC ho)]; exact nC,b0⟩
   . obtain⟨hH,⟨vk,kr,mV⟩,nC,b0⟩:=hI;have e:=bC ho (x:=.loop L);exact⟨hH.D7 e,⟨vk,e.bf kr,mV.mono e⟩,e.bf nC,b0⟩
   . exact⟨by rw[aM (bY hJ.1 ho)]; exact hJ.1,hJ.2⟩
   . obtain⟨hH,⟨vk,kr,mV⟩,nC,b0⟩:=hI;obtain⟨mn,me,mt,m3,m4,m6,m7,m8⟩:=mem hH;refine eL kr rfl ?_;refine eL m3 rfl ?_;refine BJ hv hy λ r=>?_;simp only[di,aD,dN,oO,df,gY,fi];refine Y5 rfl rfl ?_;refine Oy mV (m:=1) (l2:=[.int .u8 y.kind]) rfl rfl (by omega) (by omega) λ bI v' g2 k2=>?_;have lU:∀ b z,ad.box b=some z->bI.live b=ad.live b/\bI.box b=some z:=λ b z hb=>by
      cases vw:ad.live b with
      | none=>exact absurd vw (dA hb)
      | some w =>
        have:=k2 b w (λ n' l' sd=>by
         rcases mV.g with ⟨_,_,h3⟩|⟨τ,r1,r2,_⟩
         . rw[h3]at sd; cases sd
         . rw[r1]at sd; cases sd; exact eo hb r2 rfl) vw
        exact⟨this,by rw[dx (this.trans vw.symm)]; exact hb⟩
     refine⟨λ b hb=>?_,?_⟩
     . simp only[dH,jn,iK,fN,fe,List.not_mem_nil,or_false]at hb;rcases hb with rfl|rfl
       . exact (lU _ _ m3).1
       . exact (lU _ _ kr).1
     have ZA:kg bI bs:=λ p hp=>(lU _ _ (hH p hp)).2;have IW:=(lU _ _ nC).2;have ql:=(lU _ _ kr).2;have rk:v'.cA=true/\au v'=[v']:=by
      rcases g2.g with ⟨h0,_,_⟩|⟨τ,r1,_,_⟩
      . omega
      . rw[r1]; exact⟨rfl,rfl⟩
     rw[cL ql];refine⟨⟨rk.1,by rw[rk.2]; rfl,by simp⟩,?_⟩;have ZB:=ZA.set YV (y:=.box (ax [vk] 0 (au v')));have Pc:(bI.set iM (.box (ax [vk] 0 (au v')))).box hZ=some [.int .i64 ((behind l (n+1) ks:Nat):Int)]:=by rw[aM JD.symm]; exact IW
     have aax:(bI.set iM (.box (ax [vk] 0 (au v')))).box iM=some [v']:=by rw[aX,rk.2]; rfl
     have g3:gC U (bI.set iM (.box (ax [vk] 0 (au v')))) v' 5 1 (ks.length+1) (lK (fS l ks)++[.int .u8 y.kind]):=by
      refine⟨?_,g2.z,g2.t,nD _⟩;rcases g2.g with g|⟨τ,r1,r2,r3⟩
      . exact .inl g
      . exact .inr ⟨τ,r1,by rw[iL (eo ql r2).symm]; exact r2,r3⟩
     have yr:(bI.set iM (.box (ax [vk] 0 (au v')))).loop o=some L1:=by
      obtain⟨_,kl⟩:=n7 mV.g k2;rw[fF]; exact kl hL;rw[eE,if_neg (bY ql (kl hL)).symm]
     generalize bI.set iM (.box (ax [vk] 0 (au v')))=cj at *;clear g2 k2 lU ZA IW ql hH kr mV nC mn me mt m3 m4 m6 m7 m8;obtain⟨mn,me,mt,m3,m4,m6,m7,m8⟩:=mem ZB;refine eL m4 rfl ?_;refine eL m7 rfl ?_;rw[xV];refine⟨bD (by omega) (by omega),?_⟩;have adq:=(dp.1 hy).1;rw[jP,fx,gP,aD];refine⟨bD (by omega) (by omega),?_⟩;refine eL m3 rfl ?_;refine BJ hv hy λ r=>?_;simp only[di,aD,df,gY,List.drop,oO,fi];refine tQ (nJ _ _ _) ?_;simp only[dr,aD];have HA:eN l kN=y.size.toNat:=by unfold eN; rw[hy]; rfl
     by_cases hwk:1<=y.size/\y.size<=(n:Int)+x.size-kN
     . simp only[hwk,and_self,dq,cT];refine eV ?_;refine gq m3 rfl ?_;refine Kb hv hy λ r=>?_;simp only[di,ak,df,gY,List.drop,rQ,bl,dm];refine⟨bD (by omega) (by omega),?_⟩;rw[cL Pc];refine⟨⟨rfl,rfl,by simp⟩,?_⟩;refine V8 _ ⟨ZB.set YW,⟨v',by rw[aM JD]; exact aax,?_⟩,?_,?_⟩ (by omega) ?_
       . have:gC U (cj.set hZ (.box (ax [.int .i64 ((behind l (n+1) ks:Nat):Int)] 0 (au (.int .i64 ((kN:Int)+y.size)))))) v' 5 1 (ks.length+1) (lK (fS l ks)++[.int .u8 y.kind]):=by
          refine⟨?_,g3.z,g3.t,nD _⟩;rcases g3.g with g|⟨τ,r1,r2,r3⟩
          . exact .inl g
          . exact .inr ⟨τ,r1,by rw[iL (eo Pc r2).symm]; exact r2,r3⟩
         rw[EW hy];simpa [lK] using this
       . rw[aX,yk,HA];have:((kN+y.size.toNat:Nat):Int)=(kN:Int)+y.size:=by omega
         rw[this]; rfl
       . rw[List.all_append,b0];simp only[List.all_cons,List.all_nil,Bool.and_true,Bool.true_and,dJ,HA];omega
       . rw[fF]; exact yr;rw[eE,if_neg (bY Pc yr).symm]
     . simp only[hwk,dz,dZ];refine ez ?_;rw[cL m6];refine⟨⟨rfl,rfl,by simp⟩,?_⟩;refine Z7 _ ⟨by rw[aX]; rfl,?_⟩ ?_
       . obtain⟨r',vD⟩:=sP;rw[hQ,vD,List.all_append,List.all_cons];have:decide (1<=eN l kN/\(kN:Int)+eN l kN<=n+x.size)=false:=by
          rw[decide_eq_false_iff_not,HA]; omega
         rw[this]; simp
       . rw[fF]; exact yr;rw[eE,if_neg (bY m6 yr).symm]
   . obtain⟨hH,⟨vk,kr,mV⟩,nC,b0⟩:=hI;have hH':=hH.del (ZZ hH hL);have IW:(ad.del o).box hZ=some [.int .i64 ((behind l (n+1) ks:Nat):Int)]:=by rw[iD (bY nC hL)]; exact nC
     have ql:(ad.del o).box iM=some [vk]:=by rw[iD (bY kr hL)]; exact kr
     obtain⟨mn,me,mt,m3,m4,m6,m7,m8⟩:=mem hH';have adg:ks.length<=l.length:=by rw[kM]; exact y8 _ _ _ _
     have vw:behind l (n+1) ks<=n+x.size.toNat+n+1:=by
      clear hQ;rcases List.eq_nil_or_concat ks with h0|⟨ks',k,h0⟩
      . rw[h0]; simp[behind]
        try omega
      . rw[h0,List.concat_eq_append,yk];rw[h0,List.concat_eq_append,List.all_append,bV]at b0;have:=b0.2;simp only[List.all_cons,List.all_nil,Bool.and_true,dJ]at this;omega
     refine gq IW rfl ?_;refine gq m4 rfl ?_;refine gq m7 rfl ?_;rw[dm];refine⟨bD (by omega) (by omega),?_⟩;refine J8 ?_;rw[<- kM]at hQ;rw[b0,Bool.true_and]at hQ
     by_cases tq:((behind l (n+1) ks:Nat):Int)=n+x.size
     . rw[decide_eq_true tq,Bool.true_and]at hQ;simp only[tq,dq,bj,ib,aP,cn,aN,aD,cq];refine eL ql rfl ?_;refine eL m8 rfl ?_;refine ez ?_;have rk:gx vk (fS l ks).length (lK (fS l ks)):=by
        have:(fS l ks).length=ks.length:=by simp[fS]
        rw[this]; exact mV.sl
       have mW:=Ed hf;refine Vc rk (by simp[fS]; omega) mW.1 mW.2 λ qg e9=>?_;simp only[bA,aO,if_true,ak];exact ret _ qg (nD _) ⟨_,e9.bf m6⟩ hQ
     . rw[decide_eq_false tq,Bool.false_and]at hQ;simp only[tq,dz,bj,show (false==true)=false from rfl,aP,cz,aO,bQ,if_false,ak];refine eV ?_;exact ret false _ (nD _) ⟨_,m6⟩ hQ
   . have h6:(ad.del o).box b6=some [.bool false]:=by rw[iD (bY hJ.1 hL)]; exact hJ.1
     rw[FA h6 rfl];refine aq.mk ?_;have:=h (ad.del o) (nD _);rw[hJ.2]at this; exact this
end Go.Rip
namespace Go.Rip
open Go.Proofs Go.RowKit
theorem zR (ad:St):cG (bK ⟨.e,0⟩) ad:=λ b x h=>by cases h
theorem LQ {v:AV} {l:List Nd} {n:Nat} {x:Nd} (hv:gx v l.length (cb l)) (hc:closed v=true) (hx:l[n]?=some x) (hl:l.length<=10000) (sc:x.text.length<=3000):Pure K 131 [.agg [v],.int .i64 (n:Nat),nB] (.bool (gN l n x)) :=
 Pure.of (by simp[bG,closed,hc,show closed nB=true by kernel_rfl]) rfl (λ U=>rfl) λ R hR=>Th hv hx hl sc zR λ ad _=>hR ad
def jo (l:List Nd):Bool:=match l[0]? with|none=>false|some x0=>decide (x0.kind=1)&&(decide (x0.size=((l.length:Nat):Int))&&(List.range l.length).all λ n=>match l[n]? with|some x=>gN l n x|none=>true)
theorem qH {l:List Nd} {x0:Nd} (h0:l[0]?=some x0):jo l=true↔(x0.kind=1/\x0.size=l.length/\∀ n x,l[n]?=some x->gN l n x=true):=by
 unfold jo;rw[h0];simp only[bV,dJ,eH,List.mem_range];refine and_congr_right λ _=>and_congr_right λ _=>⟨λ h n x hx=>?_,λ h n hn=>?_⟩
 . have:=h n (dp.1 hx).1;rw[hx]at this; exact this
 . obtain⟨x,hx⟩:∃ x,l[n]?=some x:=⟨l[n],by simp[hn]⟩;rw[hx]; exact h n x hx
theorem Mn {l:List Nd} {n:Nat} {x:Nd} (hx:l[n]?=some x) (h:gN l n x=false):jo l=false:=by
 cases h0:l[0]? with
 | none=>unfold jo; rw[h0]
 | some x0 =>
   cases hr:jo l with
   | false=>rfl
   | true=>rw[((qH h0).1 hr).2.2 n x hx]at h; cases h
theorem JQ {v:AV} {l:List Nd} (hv:gx v l.length (cb l)) (hc:closed v=true) (hl:l.length<=10000) (sc:∀ x∈l,x.text.length<=3000):Pure K 68 [.agg [v]] (.bool (jo l)):=by
 refine Pure.of (by simp[bG,closed,hc]) rfl (λ U=>rfl) λ R hR=>?_;refine Qb ?_;unfold R6;rw[fY rfl];intro b1 hb1;have m1:((bK ⟨.e,0⟩).new b1 (.box (au (.agg [v])))).box b1=some [v]:=aI;generalize (bK _).new b1 _=az at *;clear hb1;refine kD (kD (eL m1 rfl ?_));rw[hv.len,aD,bw,aD];cases h0:l[0]? with
 | none =>
   have tz:l.length=0:=by simpa using h0
   have hq:jo l=false:=by unfold jo; rw[h0]
   simp only[tz,Int.natCast_zero,dq,bj,show (true==false)=false from rfl,aP,cz,aO,if_true,oc,aD];exact ez (aq.mk (by rw[<- hq]; exact hR _))
 | some x0 =>
   have tz:0<l.length:=(dp.1 h0).1;have cv:¬ ((l.length:Int)=0):=by omega
   have hQ:jo l=(decide (x0.kind=1)&&(decide (x0.size=((l.length:Nat):Int))&&(List.range l.length).all λ n=>match l[n]? with|some x=>gN l n x|none=>true)):=by unfold jo; rw[h0]
   simp only[cv,dz,bj,ib,aP,cn];refine kD (kD (eL m1 rfl ?_));refine BJ (i:=0) hv h0 λ r=>?_;simp only[di,aD,dN,oO,df,gY,fi,cP,aO,bQ,if_false]
   by_cases hk:x0.kind=1
   rotate_left
   . simp only[hk,dz,dZ,bj,show (true==false)=false from rfl,aP,cz,aO,if_true,oc,aD];exact ez (aq.mk (by rw[show false=jo l by rw[hQ]; simp[hk]]; exact hR _))
   simp only[hk,dq,cT,bj,ib,aP,cn];refine kD (kD (eL m1 rfl ?_));refine BJ (i:=0) hv h0 λ r=>?_;simp only[di,aD,List.drop,oO,df,gY,fi];refine kD (kD (eL m1 rfl ?_));rw[hv.len,aD,cP,aD];simp only[aO,bQ,if_false,aD]
   by_cases hs:x0.size=l.length
   rotate_left
   . simp only[hs,dz,dZ];exact ez (aq.mk (by rw[show false=jo l by rw[hQ]; simp[hk,hs]]; exact hR _))
   simp only[hs,dq,cT];refine eV (zV.go ?_);simp only[aN,ak,cq];refine gq m1 rfl ?_;rw[hv.len,ak];refine⟨λ m v1 v3 hP v37 ad=>∃ i:Nat,m=l.length-i/\i<=l.length/\v1=.box b1 0/\v3=nB/\hP=.int .i64 l.length/\v37=.int .i64 (i:Nat)/\ad=az/\∀ j x,j<i->l[j]?=some x->gN l j x=true,⟨_,0,rfl,by omega,rfl,rfl,rfl,rfl,rfl,λ j x h=>by omega⟩,?_⟩;rintro m v1 v3 hP v37 ad ⟨i,rfl,hi,rfl,rfl,rfl,rfl,rfl,b0⟩;simp only[bX,ak];refine tn (λ aL=>?_) λ jW=>?_
   . have aL:i<l.length:=by omega
     obtain⟨x,hx⟩:∃ x,l[i]?=some x:=⟨l[i],by simp[aL]⟩;rw[mR m1];refine⟨by simp,?_⟩;refine (LQ hv hc hx hl (sc x (gA hx))).go ?_;simp only[dr,ak];cases hq:gN l i x with
     | false=>exact ez (aq.mk (by rw[<- Mn hx hq]; exact hR _))
     | true =>
       refine eV ?_;rw[dm];refine⟨bD (by omega) (by omega),l.length-(i+1),by omega,i+1,rfl,by omega,rfl,rfl,rfl,by simp,rfl,λ j y hj hy=>?_⟩
       by_cases h:j=i
       . subst h; rw[hx]at hy; cases hy; exact hq
       . exact b0 j y (by omega) hy
   . refine aq.mk ?_;have:jo l=true:=(qH h0).2 ⟨hk,hs,λ n x hx=>b0 n x (by have:=(dp.1 hx).1; omega) hx⟩;rw[<- this]; exact hR _
theorem Iy {v:AV} {l:List Nd} (hv:gx v l.length (cb l)) (hc:closed v=true) (hl:l.length<=10000) (sc:∀ x∈l,x.text.length<=3000):Pure K 30 [.agg [v]] (.int .i64 (fC l)):=by
 refine Pure.of (by simp[bG,closed,hc]) rfl (λ U=>rfl) λ R hR=>?_;refine P2 ?_;unfold RX;rw[fY rfl];intro b1 hb1;have m1:((bK ⟨.e,0⟩).new b1 (.box (au (.agg [v])))).box b1=some [v]:=aI;generalize (bK _).new b1 _=az at *;clear hb1;simp only[aN,ak,cq];refine gq m1 rfl ?_;rw[hv.len,ak];simp only[eX,ak];refine tn (λ yy=>?_) λ hle=>?_
 . refine aq.mk ?_;have:fC l=5:=by unfold fC; rw[if_pos (by omega)]
   rw[<- this]; exact hR _
 rw[mR m1];refine⟨by simp,?_⟩;refine kj [v] rfl ?_;refine (JQ hv hc hl sc).go ?_;simp only[dr,ak];have h9:¬ 900<l.length:=by omega
 cases hq:jo l with
 | false =>
   refine ez (aq.mk ?_);have:fC l=4:=um h9 λ h=>by
    obtain⟨t,rfl,h2,h3⟩:=h;obtain⟨x,r,e,_⟩:=t.kK;have h0:t.flat[0]?=some x:=by rw[e]; rfl
    rw[(qH h0).2 ((CT h0).2 ⟨t,rfl,h2,h3⟩)]at hq;cases hq
   rw[<- this]; exact hR _
 | true =>
   refine eV ?_;rw[mR m1];refine⟨by simp,?_⟩;cases h0:l[0]? with
   | none=>unfold jo at hq; rw[h0]at hq; cases hq
   | some x0 =>
     have hr:=(qH h0).1 hq;obtain⟨t,rfl,h2,h3⟩:=(CT h0).1 hr;have cv:t.flat≠[]:=by intro e; rw[e]at h0; cases h0
     have hsz:=(yI cv (by
      obtain⟨y,r,e,_⟩:=t.kK;rw[e]at h0 ⊢; simp at h0; subst h0; have:=hr.2.1; rw[e]at this; exact this) hr.2.2)
     refine (uu hv hc (by omega) cv (λ x hx=>?_) ?_).go ?_
     . obtain⟨n,hn,rfl⟩:=List.getElem_of_mem hx;have:=hsz.1.2.2 n t.flat[n] (by simp[hn]);omega
     . have:=hsz.1.2.1; omega
     . rw[yp];have Ph:fC t.flat=if 60<t.deep\/24<t.kids.length then 5 else 0:=by
        rw[vW t h9]; unfold yY; rw[if_neg (by simp[h2,h3])]
       rw[Ph]at hR
       by_cases hg:60<t.deep\/24<t.kids.length
       . rw[if_pos hg]at hR;have:(decide (60<t.deep)||decide (24<t.kids.length))=true:=by simpa using hg
         rw[this];exact ez (aq.mk (hR _))
       . rw[if_neg hg]at hR;have:(decide (60<t.deep)||decide (24<t.kids.length))=false:=by simpa using hg
         rw[this];exact eV (aq.mk (hR _))
end Go.Rip
