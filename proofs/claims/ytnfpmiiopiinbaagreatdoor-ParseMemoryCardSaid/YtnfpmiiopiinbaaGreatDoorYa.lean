import Derived.Test.YtnfpmiiopiinbaaGreatDoorY
set_option linter.all false
namespace Go.Rip
open Go.Proofs Go.RowKit
def Ak:List Int:=(List.range 37).map λi=>((i:Nat):Int)+1
def Rp{k:Int}(h:k<1\/37<k):∀j∈Ak,j≠k:=by
 intro j hj;simp only[Ak,List.mem_map,List.mem_range]at hj;obtain⟨i,hi,rfl⟩:=hj;omega
def TJ:∃vs,sD=.iK (Ak.map (.int .u8)) vs:=⟨_,by unfold sD Ak;rfl⟩
def look_ok(k:Int)(U:St):fK (some (.i,204)) (some (.agg [AV.bool false,AV.bool false,AV.bool false,AV.af])) sD (co k) true U=.val (match bS k with|some f=>.az [.agg (qA f),.bool true]|none=>.az [Oc,.bool false]):=by
 obtain⟨vs,De⟩:=TJ;rw[De];show pM .i (co k) Oc true (Ak.map (.int .u8)) vs=_
 by_cases h:k<1\/37<k
 . rw[sC h];exact JZ Ak vs (Rp h)
 . obtain⟨n,rfl⟩:∃n:Nat,k=n:=⟨k.toNat,d6⟩;have:=Sa ⟨n,d6⟩;unfold U4 at this;rw[De]at this;simp only at this;split at this
   . rename_i v hv;rw[hv,Ag this];cases bS n<;>rfl
   . cases this
variable {v:AV}{l:List Nd}
def dz.Dl{U:St}(h:dz v l.length (bM l)):jE U v l:=by
 rcases h with ⟨h0,_,h1⟩|⟨c,h1⟩
 . exact .inl (.inl ⟨h1,ti.1 h0⟩)
 . exact .inl (.inr ⟨c,h1⟩)
def LU{k:Int}{f:iQ}(h:bS k=some f):f.kids.length<=100/\∀s∈f.kids,s.least<=1000/\s.ph<=1000:=by
 have hk:1<=k/\k<=37:=by
  by_cases h1:k<1\/37<k
  . rw[sC h1]at h;cases h
  . omega
 obtain⟨n,rfl⟩:∃n:Nat,k=n:=⟨k.toNat,d6⟩;have all:∀n:Fin 38,(match bS ((n.val:Nat):Int) with|some f=>decide (f.kids.length<=100)&&f.kids.all λs=>decide (s.least<=1000/\s.ph<=1000)|none=>true)=true:=by decide +kernel
 have:=all ⟨n,d6⟩;simp only[h,cS,dU,fQ]at this;exact this
def o0(U:St)(bs:List (Nat×List AV)):Prop:=∀p∈bs,U.box p.1=some p.2
section
variable {U aa:St}{bs:List (Nat×List AV)}{b:Nat}{x:List AV}
def o0.tT(h:o0 U bs)(e:dt U aa):o0 aa bs:=λp hp=>e.bq (h p hp)
def o0.cons(h:o0 U bs)(k:U.box b=some x):o0 U ((b,x)::bs):=λp hp=>by
 rcases dy.1 hp with rfl|hp
 . exact k
 . exact h p hp
def o0.set(h:o0 U bs)(hb:∀p∈bs,p.1≠b){y:Live}:o0 (U.set b y) bs:=λp hp=>by
 rw[bf (hb p hp)];exact h p hp
def o0.del(h:o0 U bs)(hb:∀p∈bs,p.1≠b):o0 (U.del b) bs:=λp hp=>by
 rw[jF (hb p hp)];exact h p hp
def o0.fresh(h:o0 U bs)(f:U.eO b):∀p∈bs,p.1≠b:=λp hp=>f.cA (h p hp)
end
def aiF{e:TypeId}{x:AV}{z:AV}{kq:AV->Prop}(hx:x.dC)(hc:al x=[x])(hk:kq (.vec 1 .full [x])):bC K (ai (some (e,1)) (some [z]) 1 false [(0,x)]) kq:=by
 rw[th];refine⟨d6,?_⟩;rw[pk (o:=0) (s:=1) rfl];refine⟨⟨hx,by rw[hc];rfl,by simp[bZ]⟩,?_⟩;rw[va,hc];exact⟨rfl,hk⟩
variable {n:Nat}
def gi.loop{aj U:St}{e:TypeId}{sz:Nat}{l:List AV}{o:Nat}{L L':iu}(h:gi aj U v e sz n l)(ho:U.loop o=some L)(hx:dt aj (U.set o (.loop L'))):gi aj (U.set o (.loop L')) v e sz n l:=by
 refine⟨?_,h.z,h.t,hx⟩;rcases h.g with g|⟨τ,r1,r2,r3⟩
 . exact .inl g
 . refine .inr ⟨τ,r1,?_,r3⟩;rw[jk];exact r2;rintro rfl;unfold St.tok at r2;unfold St.loop at ho;split at ho
   . rename_i e;simp[e]at r2
   . cases ho
def MO{ks:List Nat}{k:Nat}{x:Nd}(h:l[k]?=some x):kJ l (ks++[k])=kJ l ks++[x.kind]:=by simp[kJ,h]
def ae1{U:St}{R:bi}{x:Nd}(hv:dz v l.length (bM l))(hx:l[n]?=some x)(hl:l.length<=10000)(mT:x.text.length<=3000)(qK:∀aa,dt U aa)
 (h:∀aa,dt U aa->R (.ret (.bool (l8 l n x))) aa):ag K 131 [.agg [v],bv (n:Nat),sD] U R:=by
 refine WD ?_;dsimp only[WC,fR,eh,lM,zgl,zgt,lN,jr,Bf,wW,QR,zhl,HV,wX,wY,fe,KF,jN,ae,lD,bg,ak,fw,Ch,aQ,ah,Ec,Ed,dj,ar,ca,cw,eN,dI,iH,bX,ej,fW,cn,dm,dr,dA,gO,mX,uE,od,mz,zql,oe,QS,kN];have hnl:=(dw.1 hx).1;rw[fg rfl];intro b3 kF;have k3:(U.new b3 (.box (al (.agg [v])))).box b3=some [v]:=aH;have e1:=bK kF (x:=.box (al (.agg [v])));generalize U.new b3 (.box (al (.agg [v])))=aK at *;rw[fg rfl];intro b4 kG;have k4:(aK.new b4 (.box (al (bv (n:Nat))))).box b4=some [bv (n:Nat)]:=aH;have M0:=kG.cA k3;have e2:=e1.new kG (x:=.box (al (bv (n:Nat))));have k3:=(bK kG (x:=.box (al (bv (n:Nat))))).bq k3;generalize aK.new b4 (.box (al (bv (n:Nat))))=aV at *;rw[dh];intro b6 tC;have k6:(aV.new b6 (.box [.bool false])).box b6=some [.bool false]:=aH;have n36:=tC.cA k3;have n46:=tC.cA k4;have f6:U.live b6=none:=e2.fresh tC.1;have e3:=e2.new tC (x:=.box [.bool false]);have k3:=(bK tC (x:=.box [.bool false])).bq k3;have k4:=(bK tC (x:=.box [.bool false])).bq k4;generalize aV.new b6 (.box [.bool false])=bG at *;simp only[aP,ad,cK];refine dN k3 rfl ?_;refine dN k4 rfl ?_;refine IY hv hx λr=>?_;rw[tP];refine⟨by simp[dv],?_⟩;have L7:(dv x++r).take 6=dv x:=by simp[dv]
 rw[L7,dh];intro b7 oT;have k7:(bG.new b7 (.box [co 0,AV.str [],bv 0,bv 0,bv 0,bv 0])).box b7=some [co 0,AV.str [],bv 0,bv 0,bv 0,bv 0]:=aH;have n37:=oT.cA k3;have n47:=oT.cA k4;have n67:=oT.cA k6;have f7:U.live b7=none:=e3.fresh oT.1;have e4:=e3.new oT (x:=.box [co 0,AV.str [],bv 0,bv 0,bv 0,bv 0]);have en:=bK oT (x:=.box [co 0,AV.str [],bv 0,bv 0,bv 0,bv 0]);have k3:=en.bq k3;have k4:=en.bq k4;have k6:=en.bq k6;clear en;generalize bG.new b7 (.box [co 0,AV.str [],bv 0,bv 0,bv 0,bv 0])=cI at *;rw[cV k7];refine⟨⟨rfl,rfl,by simp[dv]⟩,?_⟩;have j7:(cI.set b7 (.box (ax [co 0,AV.str [],bv 0,bv 0,bv 0,bv 0] 0 (al (.agg (dv x)))))).box b7=some (dv x):=by rw[aZ];rfl
 have k3:(cI.set b7 (.box (ax [co 0,AV.str [],bv 0,bv 0,bv 0,bv 0] 0 (al (.agg (dv x)))))).box b3=some [v]:=by rw[bf n37];exact k3
 have k4:(cI.set b7 (.box (ax [co 0,AV.str [],bv 0,bv 0,bv 0,bv 0] 0 (al (.agg (dv x)))))).box b4=some [bv (n:Nat)]:=by rw[bf n47];exact k4
 have k6:(cI.set b7 (.box (ax [co 0,AV.str [],bv 0,bv 0,bv 0,bv 0] 0 (al (.agg (dv x)))))).box b6=some [.bool false]:=by rw[bf n67];exact k6
 have e5:=e4.set f7 (x:=.box (ax [co 0,AV.str [],bv 0,bv 0,bv 0,bv 0] 0 (al (.agg (dv x)))));generalize cI.set b7 (.box (ax [co 0,AV.str [],bv 0,bv 0,bv 0,bv 0] 0 (al (.agg (dv x)))))=dc at *;clear k7 kF kG tC oT e1 e2 e3 e4;refine dN j7 rfl ?_;rw[look_ok,ad];have ret:∀(q:Bool)(aa:St),dt U aa->(∃y,aa.box b6=some [y])->l8 l n x=q->(dD (some (false,1)) (.box b6 0) (.bool q) aa).wp K aa (λ_ U=>fV (some (false,1)) (.box b6 0) U λr0=>aq R r0 U) (aD R):=by
  intro q aa e ⟨y,hy⟩ hq;rw[cV hy];refine⟨⟨rfl,rfl,d8⟩,?_⟩;rw[B2 aZ rfl];subst hq;exact aq.mk (h _ (e.set f6))
 cases hf:bS x.kind with
 | none =>
   have hq:l8 l n x=false:=by unfold l8;rw[hf]
   simp only[bN,List.drop,bI,Oc];rw[dh];intro b8 tD;have k8:(dc.new b8 (.box [AV.bool false,AV.bool false,AV.bool false,AV.af])).box b8=some [AV.bool false,AV.bool false,AV.bool false,AV.af]:=aH;have n68:=tD.cA k6;have e6:=e5.new tD (x:=.box [AV.bool false,AV.bool false,AV.bool false,AV.af]);have f8:U.live b8=none:=e5.fresh tD.1;have k6:=(bK tD (x:=.box [AV.bool false,AV.bool false,AV.bool false,AV.af])).bq k6;generalize dc.new b8 (.box [AV.bool false,AV.bool false,AV.bool false,AV.af])=jg at *;rw[cV k8];refine⟨⟨rfl,rfl,d8⟩,?_⟩;simp only[db,ad,dS,aF,show (true==false)=false from rfl,aw,bB,jd,av,if_true];exact cO (ret false _ (e6.set f8) ⟨.bool false,by rw[bf n68];exact k6⟩ hq)
 | some f =>
   simp only[bN,List.drop,bI];rw[dh];intro b8 tD;have k8:(dc.new b8 (.box [AV.bool false,AV.bool false,AV.bool false,AV.af])).box b8=some [AV.bool false,AV.bool false,AV.bool false,AV.af]:=aH;have n38:=tD.cA k3;have n48:=tD.cA k4;have n68:=tD.cA k6;have n78:=tD.cA j7;have e6:=e5.new tD (x:=.box [AV.bool false,AV.bool false,AV.bool false,AV.af]);have f8:U.live b8=none:=e5.fresh tD.1;have en:=bK tD (x:=.box [AV.bool false,AV.bool false,AV.bool false,AV.af]);have k3:=en.bq k3;have k4:=en.bq k4;have k6:=en.bq k6;have j7:=en.bq j7;clear en;generalize dc.new b8 (.box [AV.bool false,AV.bool false,AV.bool false,AV.af])=jg at *;have p6:(qA f).length=4:=rfl;rw[cV k8];refine⟨⟨rfl,rfl,by simp[p6]⟩,?_⟩;have j8:(jg.set b8 (.box (ax [AV.bool false,AV.bool false,AV.bool false,AV.af] 0 (al (.agg (qA f)))))).box b8=some (qA f):=by rw[aZ];rfl
   have k3:(jg.set b8 (.box (ax [AV.bool false,AV.bool false,AV.bool false,AV.af] 0 (al (.agg (qA f)))))).box b3=some [v]:=by rw[bf n38];exact k3
   have k4:(jg.set b8 (.box (ax [AV.bool false,AV.bool false,AV.bool false,AV.af] 0 (al (.agg (qA f)))))).box b4=some [bv (n:Nat)]:=by rw[bf n48];exact k4
   have k6:(jg.set b8 (.box (ax [AV.bool false,AV.bool false,AV.bool false,AV.af] 0 (al (.agg (qA f)))))).box b6=some [.bool false]:=by rw[bf n68];exact k6
   have j7:(jg.set b8 (.box (ax [AV.bool false,AV.bool false,AV.bool false,AV.af] 0 (al (.agg (qA f)))))).box b7=some (dv x):=by rw[bf n78];exact j7
   have e7:=e6.set f8 (x:=.box (ax [AV.bool false,AV.bool false,AV.bool false,AV.af] 0 (al (.agg (qA f)))));generalize jg.set b8 (.box (ax [AV.bool false,AV.bool false,AV.bool false,AV.af] 0 (al (.agg (qA f)))))=gZ at *;clear k8 tD e5 e6;have hQ:l8 l n x=(decide (1<=x.size/\x.size<=(l.length:Int)-n)&&(fx x f&&((ix l ((n:Int)+x.size) l.length (n+1)).all (λk=>decide (1<=iY l k/\(k:Int)+iY l k<=n+x.size)) &&
    (decide (((behind l (n+1) (ix l ((n:Int)+x.size) l.length (n+1)):Nat):Int)=n+x.size)&&dB (kJ l (ix l ((n:Int)+x.size) l.length (n+1))) f.kids)))):=by unfold l8;rw[hf]
   simp only[db,ad,cL,aF,eG,aw,bO,ao];have hlen:dK (some false) v=.val (bv l.length):=hv.len;refine j9 (eQ k3 rfl ?_);rw[hlen,ao];refine eQ k4 rfl ?_;rw[jA,il,jB,ao];refine⟨aX d6 d6,?_⟩;refine j9 (eQ j7 rfl (jV (sO _ _ _) ?_));simp only[db,ao,av,bW,if_false,ad];have bad:l8 l n x=false->(dD (some (false,1)) (.box b6 0) (.bool false) gZ).wp K gZ (λ_ U=>fV (some (false,1)) (.box b6 0) U λr0=>aq R r0 U) (aD R):=λhq=>ret false _ e7 ⟨_,k6⟩ hq
   by_cases hw:1<=x.size/\x.size<=(l.length:Int)-n
   rotate_left
   . simp only[hw,cZ,dS,aF,show (true==false)=false from rfl,aw,bB,jd,av,if_true,ad];exact cO (bad (by rw[hQ,decide_eq_false hw];rfl))
   rw[decide_eq_true hw,Bool.true_and]at hQ;simp only[hw,cC,cL,aF,eG,aw,bO];simp only[and_self,cC,cL,aF,eG,aw,bO];refine j9 (eQ j8 rfl (j9 (eQ j7 rfl ?_)));rw[nr,ao,CN,ao];have hwt:(!decide (x.text=w_))=decide (x.text≠[]):=by
    by_cases h:x.text=[]<;>simp[h,w_]
   rw[hwt];simp only[av,bW,if_false,ad];have yQ:fx x f=((f.text==decide (x.text≠[]))&&((!f.text||gr x.text)&&(ek x.n&&(ek x.m&&((f.n||decide (x.n=0))&&(f.m||decide (x.m=0))))))):=by
    unfold fx;have e0:(x.text != [])=decide (x.text≠[]):=by by_cases h:x.text=[]<;>simp[h]
    have e1:(x.n==0)=decide (x.n=0):=by by_cases h:x.n=0<;>simp[h]
    have e2:(x.m==0)=decide (x.m=0):=by by_cases h:x.m=0<;>simp[h]
    rw[e0,e1,e2];simp only[Bool.and_assoc]
   cases ht:(f.text != decide (x.text≠[])) with
   | true =>
     simp only[aF,show (true==false)=false from rfl,aw,bB,jd,av,if_true,ad];refine cO (bad ?_);have:(f.text==decide (x.text≠[]))=false:=by revert ht;cases f.text<;>cases decide (x.text≠[])<;>simp
     rw[hQ,yQ,this];rfl
   | false =>
   have qJ:(f.text==decide (x.text≠[])):=by revert ht;cases f.text<;>cases decide (x.text≠[])<;>simp
   rw[qJ,Bool.true_and]at yQ;simp only[aF,eG,aw,bO];refine j9 (eQ j8 rfl ?_);simp only[ao];have nm:∀(A:Prop),((!f.text||gr x.text)->A) ->
    aI K (cq (.bool f.text) true) (bu (some 1) (.box b7 0)) (λCB =>
    aI K (cq (.bool f.text) true) (bj (some (false,1)) CB gZ) (λv53 =>
    aI K (cq (.bool f.text) true) (aW.enter 208 [v53]) (λzr =>
    aI K (cq (.bool f.text) true) (yx .not zr) (λA9 =>
    bC K (fP (.bool f.text) A9 (.bool false)) (λHM =>
    cX (if false=true then AV.bool true else HM) ((dD (some (false,1)) (.box b6 0) (.bool false) gZ).wp K gZ (λ_ U=>fV (some (false,1)) (.box b6 0) U λr0=>aq R r0 U) (aD R)) A))))):=by
    intro A hA;cases PF:f.text with
    | false =>
      simp only[aF,show (false==true)=false from rfl,aw,bB,av,bW,if_false,ao,ad];exact cz (hA (by rw[PF];rfl))
    | true =>
      simp only[aF,eG,aw,bO];refine j9 (eQ j7 rfl (jV (Sd _ mT) ?_));simp only[db,ao,av,if_true,bW,if_false,ad];cases JB:gr x.text with
      | true=>exact cz (hA (by rw[PF,JB];rfl))
      | false=>exact cO (bad (by rw[hQ,yQ,PF,JB];rfl))
   refine nm _ λJB=>?_;clear nm;rw[JB,Bool.true_and]at yQ;simp only[aP,ad,cK];refine dN j7 rfl ((sO _ _ _).go ?_);have T4:∀a:Int,decide (0<=a/\a<=1000000)=ek a:=λ_=>rfl;rw[T4];simp only[db,ad];cases hN:ek x.n with
   | false =>
     simp only[dS,aF,show (true==false)=false from rfl,aw,bB,jd,av,if_true,ad];exact cO (bad (by rw[hQ,yQ,hN];rfl))
   | true =>
   rw[hN,Bool.true_and]at yQ;simp only[cL,aF,eG,aw,bO,ao];refine eQ j7 rfl (jV (sO _ _ _) ?_);rw[T4];simp only[db,ao,av,bW,if_false,ad];cases hM:ek x.m with
   | false =>
     simp only[dS,aF,show (true==false)=false from rfl,aw,bB,jd,av,if_true,ad];exact cO (bad (by rw[hQ,yQ,hM];rfl))
   | true =>
   rw[hM,Bool.true_and]at yQ;simp only[cL,aF,eG,aw,bO,ao];refine eQ j8 rfl ?_;simp only[db,ao];have ad5:∀(kq:AV->Prop),((f.n||decide (x.n=0))->kq (.bool false))->((f.n||decide (x.n=0))=false->kq (.bool true)) ->
    aI K (cq (.bool !f.n) true) (.val (.box b7 2)) (λv73=>aI K (cq (.bool !f.n) true) (bj (some (false,1)) v73 gZ) λN9=>aI K (cq (.bool !f.n) true) (bU .neq (BT.mk false false false none false) true N9 (bv 0)) λv75 =>
     bC K (fP (.bool !f.n) v75 (.bool false)) kq):=by
    intro kq h1 h2;cases hfn:f.n with
    | true =>
      simp only[cL,aF,show (false==true)=false from rfl,aw,bB,av,bW,if_false,ao];exact h1 (by rw[hfn];rfl)
    | false =>
      simp only[dS,aF,eG,aw,bO,ao];refine eQ j7 rfl ?_;rw[ck,ao];simp only[av,if_true,ao]
      by_cases h0:x.n=0
      . simp only[h0,cC,cL];exact h1 (by simp[h0])
      . simp only[h0,cZ,dS];exact h2 (by rw[hfn];simp[h0])
   have ad4:∀(kq:AV->Prop),((f.m||decide (x.m=0))->kq (.bool false))->((f.m||decide (x.m=0))=false->kq (.bool true)) ->
    aI K (cq (.bool !f.m) true) (.val (.box b7 3)) (λv73=>aI K (cq (.bool !f.m) true) (bj (some (false,1)) v73 gZ) λN9=>aI K (cq (.bool !f.m) true) (bU .neq (BT.mk false false false none false) true N9 (bv 0)) λv75 =>
     bC K (fP (.bool !f.m) v75 (.bool false)) kq):=by
    intro kq h1 h2;cases hfn:f.m with
    | true =>
      simp only[cL,aF,show (false==true)=false from rfl,aw,bB,av,bW,if_false,ao];exact h1 (by rw[hfn];rfl)
    | false =>
      simp only[dS,aF,eG,aw,bO,ao];refine eQ j7 rfl ?_;rw[ck,ao];simp only[av,if_true,ao]
      by_cases h0:x.m=0
      . simp only[h0,cC,cL];exact h1 (by simp[h0])
      . simp only[h0,cZ,dS];exact h2 (by rw[hfn];simp[h0])
   refine ad5 _ (λhn=>?_) λhn=>?_
   rotate_left
   . simp only[bW,if_false,aF,show (true==false)=false from rfl,aw,bB,jd,av,if_true,ad];exact cO (bad (by rw[hQ,yQ,hn];rfl))
   rw[hn,Bool.true_and]at yQ;simp only[bW,if_false,aF,eG,aw,bO,ao];refine eQ j8 rfl ?_;simp only[db,ao];refine ad4 _ (λhm=>?_) λhm=>?_
   rotate_left
   . simp only[bW,if_false,av,if_true,ad];exact cO (bad (by rw[hQ,yQ,hm];rfl))
   rw[hm]at yQ;rw[yQ,Bool.true_and]at hQ;simp only[bW,if_false,av,ad];refine cz ?_;clear ad5 ad4 yQ bad;rw[dh];intro nZ C6;have H7:o0 gZ [(b3,[v]),(b4,[bv (n:Nat)]),(b6,[.bool false]),(b7,dv x),(b8,qA f)] :=
    (((((show o0 gZ [] from λp hp=>by cases hp).cons j8).cons j7).cons k6).cons k4).cons k3
   have JR:(gZ.new nZ (.box [.af])).box nZ=some [.af]:=aH;have agK:=H7.fresh C6;have H8:=H7.tT (bK C6 (x:=.box [.af]));generalize gZ.new nZ (.box [.af])=pE at *;clear C6 H7;refine dN (H8 (b4,[bv (n:Nat)]) d8) rfl ?_;rw[cF];refine⟨aX d6 d6,?_⟩;rw[dh];intro mA zE;have k11:(pE.new mA (.box [bv 0])).box mA=some [bv 0]:=aH;have agL:=(H8.cons JR).fresh zE;have H9:=H8.tT (bK zE (x:=.box [bv 0]));have JR:=(bK zE (x:=.box [bv 0])).bq JR;generalize pE.new mA (.box [bv 0])=rF at *;clear zE H8;rw[cV k11];refine⟨⟨rfl,rfl,d8⟩,?_⟩;have ada:∀p∈[(b3,[v]),(b4,[bv (n:Nat)]),(b6,[.bool false]),(b7,dv x),(b8,qA f)],p.1≠mA:=λp hp=>agL p (List.mem_cons_of_mem _ hp);have R4:nZ≠mA:=agL (nZ,_) (List.mem_cons_self ..);have H10:=H9.set ada (y:=.box (ax [bv 0] 0 (al (bv ((n:Int)+1)))));have JR:(rF.set mA (.box (ax [bv 0] 0 (al (bv ((n:Int)+1)))))).box nZ=some [.af]:=by rw[bf R4];exact JR
   have k11:(rF.set mA (.box (ax [bv 0] 0 (al (bv ((n:Int)+1)))))).box mA=some [bv ((n:Int)+1)]:=by rw[aZ];rfl
   generalize rF.set mA (.box (ax [bv 0] 0 (al (bv ((n:Int)+1)))))=sw at *;clear H9;rw[mK (H10 (b3,[v]) d8)];refine⟨d8,?_⟩;refine dN (H10 (b4,[bv (n:Nat)]) d8) rfl ?_;refine BI (n:=n) (x:=x) hv hx (aX d6 d6) λbn be bt ac0 d1 d2 d3 f1 f2 f3 q1 q2 q3 CX=>?_;simp only[bh];have H11:=(((H10.tT CX).cons q3).cons q2).cons q1;have JR:=CX.bq JR;have aka:=CX.bq k11;have ag1:∀b y,sw.box b=some y->b≠bn/\b≠be/\b≠bt:=λb y hb =>
    ⟨λe=>cN hb (e▸f1),λe=>cN hb (e▸f2),λe=>cN hb (e▸f3)⟩
   have aip:∀p∈[(bn,[bv (n:Nat)]),(be,[bv ((n:Int)+x.size)]),(bt,[v]),(b3,[v]),(b4,[bv (n:Nat)]),(b6,[.bool false]),(b7,dv x),(b8,qA f)],p.1≠nZ:=by
    intro p hp;have g:=ag1 nZ _ (by assumption);simp only[dy]at hp;rcases hp with rfl|rfl|rfl|hp
    . exact g.1.symm
    . exact g.2.1.symm
    . exact g.2.2.symm
    . exact agK p (by simpa using hp)
   have aiq:∀p∈[(bn,[bv (n:Nat)]),(be,[bv ((n:Int)+x.size)]),(bt,[v]),(b3,[v]),(b4,[bv (n:Nat)]),(b6,[.bool false]),(b7,dv x),(b8,qA f)],p.1≠mA:=by
    intro p hp;have g:=ag1 mA _ k11;simp only[dy]at hp;rcases hp with rfl|rfl|rfl|hp
    . exact g.1.symm
    . exact g.2.1.symm
    . exact g.2.2.symm
    . exact ada p (by simpa using hp)
   generalize TS:[(bn,[bv (n:Nat)]),(be,[bv ((n:Int)+x.size)]),(bt,[v]),(b3,[v]),(b4,[bv (n:Nat)]),(b6,[.bool false]),(b7,dv x),(b8,qA f)]=bs at *;have mem:∀{aa:St},o0 aa bs->aa.box bn=some [bv (n:Nat)]/\aa.box be=some [bv ((n:Int)+x.size)]/\aa.box bt=some [v]/\aa.box b3=some [v]/\aa.box b4=some [bv (n:Nat)]/\aa.box b6=some [.bool false]/\aa.box b7=some (dv x)/\aa.box b8=some (qA f):=by
    intro aa hH;subst TS;exact⟨hH (bn,[bv (n:Nat)]) d8,hH (be,[bv ((n:Int)+x.size)]) d8,hH (bt,[v]) d8,hH (b3,[v]) d8,hH (b4,[bv (n:Nat)]) d8,hH (b6,[.bool false]) d8,hH (b7,dv x) d8,hH (b8,qA f) d8⟩
   have hlp:∀{aa:St}{o:Nat}{L:iu},o0 aa bs->aa.loop o=some L->∀p∈bs,p.1≠o:=λhH ho p hp=>cQ (hH p hp) ho;refine Hv (λks aa=>o0 aa bs/\(∃vk,aa.box nZ=some [vk]/\gi U aa vk 5 1 ks.length (iW (kJ l ks)))/\aa.box mA=some [bv ((behind l (n+1) ks:Nat):Int)]/\ks.all (λk=>decide (1<=iY l k/\(k:Int)+iY l k<=n+x.size))) (λaa=>aa.box b6=some [.bool false]/\l8 l n x=false) hv hnl d6 d6
    (λks aa hI=>⟨(mem hI.1).1,(mem hI.1).2.1,(mem hI.1).2.2.1⟩) (λks aa o L L' hI ho=>?_) (λks aa o L hI ho=>?_) (λaa o L L' hJ ho=>?_) (λks ir y aa o L1 q hI hy aA tc hnk kH td hL Ug hrx=>?_) (λks aa o L ju hI hL=>?_) (λaa o L hJ hL=>?_) ⟨H11,⟨_,JR,by simpa [kJ,iW] using gi.nil (qK _)⟩,by simpa [behind] using aka,rfl⟩
   . obtain⟨hH,⟨vk,cE,EZ⟩,Al,cg⟩:=hI;exact⟨hH.set (hlp hH ho),⟨vk,by rw[bf (cQ cE ho)];exact cE,EZ.loop ho (qK _)⟩,by rw[bf (cQ Al ho)];exact Al,cg⟩
   . obtain⟨hH,⟨vk,cE,EZ⟩,Al,cg⟩:=hI;have e:=bK ho (x:=.loop L);exact⟨hH.tT e,⟨vk,e.bq cE,EZ.mono e⟩,e.bq Al,cg⟩
   . exact⟨by rw[bf (cQ hJ.1 ho)];exact hJ.1,hJ.2⟩
   . obtain⟨hH,⟨vk,cE,EZ⟩,Al,cg⟩:=hI;obtain⟨mn,me,mt,m3,m4,m6,m7,m8⟩:=mem hH;refine eQ cE rfl ?_;refine eQ m3 rfl ?_;refine F1 hv hy λr=>?_;simp only[dX,ao,eR,oA,dv,ke,gg];refine aiF rfl rfl ?_;refine yC EZ (m:=1) (l2:=[co y.kind]) rfl rfl d6 d6 λaV v' g2 k2=>?_;have qH:∀b z,aa.box b=some z->aV.live b=aa.live b/\aV.box b=some z:=λb z hb=>by
      cases Cn:aa.live b with
      | none=>exact absurd Cn (cN hb)
      | some w =>
        have:=k2 b w (λn' l' G6=>by
         rcases EZ.g with ⟨_,_,h3⟩|⟨τ,r1,r2,_⟩
         . rw[h3]at G6;cases G6
         . rw[r1]at G6;cases G6;exact fY hb r2 rfl) Cn
        exact⟨this,by rw[eE (this.trans Cn.symm)];exact hb⟩
     refine⟨λb hb=>?_,?_⟩
     . simp only[cB,iM,mQ,gV,dy,List.not_mem_nil,or_false]at hb;rcases hb with rfl|rfl
       . exact (qH _ _ m3).1
       . exact (qH _ _ cE).1
     have hH2:o0 aV bs:=λp hp=>(qH _ _ (hH p hp)).2;have Rs:=(qH _ _ Al).2;have Dd:=(qH _ _ cE).2;have p8:v'.dC/\al v'=[v']:=by
      rcases g2.g with ⟨h0,_,_⟩|⟨τ,r1,_,_⟩
      . omega
      . rw[r1];exact⟨rfl,rfl⟩
     rw[cV Dd];refine⟨⟨p8.1,by rw[p8.2];rfl,d8⟩,?_⟩;have hH3:=hH2.set aip (y:=.box (ax [vk] 0 (al v')));have aaR:(aV.set nZ (.box (ax [vk] 0 (al v')))).box mA=some [bv ((behind l (n+1) ks:Nat):Int)]:=by rw[bf R4.symm];exact Rs
     have ajm:(aV.set nZ (.box (ax [vk] 0 (al v')))).box nZ=some [v']:=by rw[aZ,p8.2];rfl
     have g3:gi U (aV.set nZ (.box (ax [vk] 0 (al v')))) v' 5 1 (ks.length+1) (iW (kJ l ks)++[co y.kind]):=by
      refine⟨?_,g2.z,g2.t,qK _⟩;rcases g2.g with g|⟨τ,r1,r2,r3⟩
      . exact .inl g
      . exact .inr ⟨τ,r1,by rw[jk (fY Dd r2).symm];exact r2,r3⟩
     have wO:(aV.set nZ (.box (ax [vk] 0 (al v')))).loop o=some L1:=by
      obtain⟨_,kl⟩:=ly EZ.g k2;rw[iX];exact kl hL;rw[eM,if_neg (cQ Dd (kl hL)).symm]
     generalize aV.set nZ (.box (ax [vk] 0 (al v')))=bG at *;clear g2 k2 qH hH2 Rs Dd hH cE EZ Al mn me mt m3 m4 m6 m7 m8;obtain⟨mn,me,mt,m3,m4,m6,m7,m8⟩:=mem hH3;refine eQ m4 rfl ?_;refine eQ m7 rfl ?_;rw[BZ];refine⟨aX d6 d6,?_⟩;have akZ:=(dw.1 hy).1;rw[jA,il,jB,ao];refine⟨aX d6 d6,?_⟩;refine eQ m3 rfl ?_;refine F1 hv hy λr=>?_;simp only[dX,ao,dv,ke,List.drop,oA,gg];refine jV (sO _ _ _) ?_;simp only[db,ao];have PO:iY l ir=y.size.toNat:=by unfold iY;rw[hy];rfl
     by_cases hwk:1<=y.size/\y.size<=(n:Int)+x.size-ir
     . simp only[hwk,and_self,cC,cL];refine cz ?_;refine dN m3 rfl ?_;refine IY hv hy λr=>?_;simp only[dX,ad,dv,ke,List.drop,ln,bI,cF];refine⟨aX d6 d6,?_⟩;rw[cV aaR];refine⟨⟨rfl,rfl,d8⟩,?_⟩;refine Ug _ ⟨hH3.set aiq,⟨v',by rw[bf R4];exact ajm,?_⟩,?_,?_⟩ d6 ?_
       . have:gi U (bG.set mA (.box (ax [bv ((behind l (n+1) ks:Nat):Int)] 0 (al (bv ((ir:Int)+y.size)))))) v' 5 1 (ks.length+1) (iW (kJ l ks)++[co y.kind]):=by
          refine⟨?_,g3.z,g3.t,qK _⟩;rcases g3.g with g|⟨τ,r1,r2,r3⟩
          . exact .inl g
          . exact .inr ⟨τ,r1,by rw[jk (fY aaR r2).symm];exact r2,r3⟩
         rw[MO hy];simpa [iW] using this
       . rw[aZ,EM,PO];have:((ir+y.size.toNat:Nat):Int)=(ir:Int)+y.size:=by omega
         rw[this];rfl
       . rw[List.all_append,cg];simp only[List.all_cons,List.all_nil,Bool.and_true,Bool.true_and,dU,PO];omega
       . rw[iX];exact wO;rw[eM,if_neg (cQ aaR wO).symm]
     . simp only[hwk,cZ,dS];refine cO ?_;rw[cV m6];refine⟨⟨rfl,rfl,d8⟩,?_⟩;refine hrx _ ⟨by rw[aZ];rfl,?_⟩ ?_
       . obtain⟨r',yc⟩:=td;rw[hQ,yc,List.all_append,List.all_cons];have:decide (1<=iY l ir/\(ir:Int)+iY l ir<=n+x.size)=false:=by
          rw[decide_eq_false_iff_not,PO];omega
         rw[this];simp
       . rw[iX];exact wO;rw[eM,if_neg (cQ m6 wO).symm]
   . obtain⟨hH,⟨vk,cE,EZ⟩,Al,cg⟩:=hI;have hH':=hH.del (hlp hH hL);have Rs:(aa.del o).box mA=some [bv ((behind l (n+1) ks:Nat):Int)]:=by rw[jF (cQ Al hL)];exact Al
     have Dd:(aa.del o).box nZ=some [vk]:=by rw[jF (cQ cE hL)];exact cE
     obtain⟨mn,me,mt,m3,m4,m6,m7,m8⟩:=mem hH';have akP:ks.length<=l.length:=by rw[ju];exact BE _ _ _ _
     have Cn:behind l (n+1) ks<=n+x.size.toNat+n+1:=by
      clear hQ;rcases List.eq_nil_or_concat ks with h0|⟨ks',k,h0⟩
      . rw[h0];simp[behind]
        try omega
      . rw[h0,List.concat_eq_append,EM];rw[h0,List.concat_eq_append,List.all_append,cS]at cg;have:=cg.2;simp only[List.all_cons,List.all_nil,Bool.and_true,dU]at this;omega
     refine dN Rs rfl ?_;refine dN m4 rfl ?_;refine dN m7 rfl ?_;rw[cF];refine⟨aX d6 d6,?_⟩;refine ib ?_;rw[<-ju]at hQ;rw[cg,Bool.true_and]at hQ
     by_cases Aq:((behind l (n+1) ks:Nat):Int)=n+x.size
     . rw[decide_eq_true Aq,Bool.true_and]at hQ;simp only[Aq,cC,aF,eG,aw,bO,aP,ao,cK];refine eQ Dd rfl ?_;refine eQ m8 rfl ?_;refine cO ?_;have p8:dz vk (kJ l ks).length (iW (kJ l ks)):=by
        have:(kJ l ks).length=ks.length:=by simp[kJ]
        rw[this];exact EZ.sl
       have lg:=LU hf;refine agf p8 (by simp[kJ];omega) lg.1 lg.2 λrF e9=>?_;simp only[bh,av,if_true,ad];exact ret _ rF (qK _) ⟨_,e9.bq m6⟩ hQ
     . rw[decide_eq_false Aq,Bool.false_and]at hQ;simp only[Aq,cZ,aF,show (false==true)=false from rfl,aw,bB,av,bW,if_false,ad];refine cz ?_;exact ret false _ (qK _) ⟨_,m6⟩ hQ
   . have h6:(aa.del o).box b6=some [.bool false]:=by rw[jF (cQ hJ.1 hL)];exact hJ.1
     rw[B2 h6 rfl];refine aq.mk ?_;have:=h (aa.del o) (qK _);rw[hJ.2]at this;exact this
def xi(aa:St):dt (cj ⟨.e,0⟩) aa:=λb x h=>by cases h
def UY{x:Nd}(hv:dz v l.length (bM l))(hc:closed v)(hx:l[n]?=some x)(hl:l.length<=10000)(mT:x.text.length<=3000):Pure K 131 [.agg [v],bv (n:Nat),sD] (.bool (l8 l n x)) :=
 Pure.of (by simp[cW,closed,hc,show closed sD by kernel_rfl]) rfl (λU=>rfl) λR hR=>ae1 hv hx hl mT xi λaa _=>hR aa
def nR(l:List Nd):Bool:=match l[0]? with|none=>false|some x0=>decide (x0.kind=1)&&(decide (x0.size=((l.length:Nat):Int))&&(List.range l.length).all λn=>match l[n]? with|some x=>l8 l n x|none=>true)
def xp{x0:Nd}(h0:l[0]?=some x0):nR l=true↔(x0.kind=1/\x0.size=l.length/\∀n x,l[n]?=some x->l8 l n x):=by
 unfold nR;rw[h0];simp only[cS,dU,fQ,List.mem_range];refine and_congr_right λ_=>and_congr_right λ_=>⟨λh n x hx=>?_,λh n hn=>?_⟩
 . have:=h n (dw.1 hx).1;rw[hx]at this;exact this
 . obtain⟨x,hx⟩:∃x,l[n]?=some x:=⟨l[n],by simp[hn]⟩;rw[hx];exact h n x hx
def Vx{x:Nd}(hx:l[n]?=some x)(h:l8 l n x=false):nR l=false:=by
 cases h0:l[0]? with
 | none=>unfold nR;rw[h0]
 | some x0 =>
   cases hr:nR l with
   | false=>rfl
   | true=>rw[((xp h0).1 hr).2.2 n x hx]at h;cases h
def Sx{l:List Nd}(hv:dz v l.length (bM l))(hc:closed v)(hl:l.length<=10000)(mT:∀x∈l,x.text.length<=3000):Pure K 68 [.agg [v]] (.bool (nR l)):=by
 refine Pure.of (by simp[cW,closed,hc]) rfl (λU=>rfl) λR hR=>?_;refine acn ?_;dsimp only[adQ,lN,jr,Bf,QR,CD,HV,ae,bg,ak,gX,aQ,ah,dj,ar,ca,cw,dI,cJ,fW,gO,kT,od,zw,qm];rw[fg rfl];intro b1 gz;have m1:((cj ⟨.e,0⟩).new b1 (.box (al (.agg [v])))).box b1=some [v]:=aH;generalize (cj _).new b1 _=aj at *;clear gz;refine j9 (j9 (eQ m1 rfl ?_));rw[hv.len,ao,aN,ao];cases h0:l[0]? with
 | none =>
   have tY:l.length=0:=by simpa using h0
   have hq:nR l=false:=by unfold nR;rw[h0]
   simp only[tY,Int.natCast_zero,cC,aF,show (true==false)=false from rfl,aw,bB,av,if_true,jd,ao];exact cO (aq.mk (by rw[<-hq];exact hR _))
 | some x0 =>
   have tY:0<l.length:=(dw.1 h0).1;have cD:¬ ((l.length:Int)=0):=by omega
   have hQ:nR l=(decide (x0.kind=1)&&(decide (x0.size=((l.length:Nat):Int))&&(List.range l.length).all λn=>match l[n]? with|some x=>l8 l n x|none=>true)):=by unfold nR;rw[h0]
   simp only[cD,cZ,aF,eG,aw,bO];refine j9 (j9 (eQ m1 rfl ?_));refine F1 (i:=0) hv h0 λr=>?_;simp only[dX,ao,eR,oA,dv,ke,gg,ck,av,bW,if_false]
   by_cases hk:x0.kind=1
   rotate_left
   . simp only[hk,cZ,dS,aF,show (true==false)=false from rfl,aw,bB,av,if_true,jd,ao];exact cO (aq.mk (by rw[show false=nR l by rw[hQ];simp[hk]];exact hR _))
   simp only[hk,cC,cL,aF,eG,aw,bO];refine j9 (j9 (eQ m1 rfl ?_));refine F1 (i:=0) hv h0 λr=>?_;simp only[dX,ao,List.drop,oA,dv,ke,gg];refine j9 (j9 (eQ m1 rfl ?_));rw[hv.len,ao,ck,ao];simp only[av,bW,if_false,ao]
   by_cases hs:x0.size=l.length
   rotate_left
   . simp only[hs,cZ,dS];exact cO (aq.mk (by rw[show false=nR l by rw[hQ];simp[hk,hs]];exact hR _))
   simp only[hs,cC,cL];refine cz (GJ.go ?_);simp only[aP,ad,cK];refine dN m1 rfl ?_;rw[hv.len,ad];refine⟨λm v1 v3 Fw v37 aa=>∃i:Nat,m=l.length-i/\i<=l.length/\v1=.box b1 0/\v3=sD/\Fw=bv l.length/\v37=bv (i:Nat)/\aa=aj/\∀j x,j<i->l[j]?=some x->l8 l j x,⟨_,0,rfl,d6,rfl,rfl,rfl,rfl,rfl,λj x h=>by omega⟩,?_⟩;rintro m v1 v3 Fw v37 aa ⟨i,rfl,hi,rfl,rfl,rfl,rfl,rfl,cg⟩;simp only[aY,ad];refine df (λaA=>?_) λgL=>?_
   . have aA:i<l.length:=by omega
     obtain⟨x,hx⟩:∃x,l[i]?=some x:=⟨l[i],by simp[aA]⟩;rw[mK m1];refine⟨d8,?_⟩;refine (UY hv hc hx hl (mT x (fT hx))).go ?_;simp only[db,ad];cases hq:l8 l i x with
     | false=>exact cO (aq.mk (by rw[<-Vx hx hq];exact hR _))
     | true =>
       refine cz ?_;rw[cF];refine⟨aX d6 d6,l.length-(i+1),d6,i+1,rfl,d6,rfl,rfl,rfl,d8,rfl,λj y hj hy=>?_⟩
       by_cases h:j=i
       . subst h;rw[hx]at hy;cases hy;exact hq
       . exact cg j y d6 hy
   . refine aq.mk ?_;have:nR l:=(xp h0).2 ⟨hk,hs,λn x hx=>cg n x (by have:=(dw.1 hx).1;omega) hx⟩;rw[<-this];exact hR _
def Q8{l:List Nd}(hv:dz v l.length (bM l))(hc:closed v)(hl:l.length<=10000)(mT:∀x∈l,x.text.length<=3000):Pure K 30 [.agg [v]] (bv (iU l)):=by
 refine Pure.of (by simp[cW,closed,hc]) rfl (λU=>rfl) λR hR=>?_;refine ab3 ?_;dsimp only[ady,ae,bg,ak,ah,dj,ar,dI,cJ,fW,aC];rw[fg rfl];intro b1 gz;have m1:((cj ⟨.e,0⟩).new b1 (.box (al (.agg [v])))).box b1=some [v]:=aH;generalize (cj _).new b1 _=aj at *;clear gz;simp only[aP,ad,cK];refine dN m1 rfl ?_;rw[hv.len,ad];simp only[dq,ad];refine df (λAu=>?_) λhle=>?_
 . refine aq.mk ?_;have:iU l=5:=by unfold iU;rw[if_pos d6]
   rw[<-this];exact hR _
 rw[mK m1];refine⟨d8,?_⟩;refine jC [v] rfl ?_;refine (Sx hv hc hl mT).go ?_;simp only[db,ad];have h9:¬ 900<l.length:=by omega
 cases hq:nR l with
 | false =>
   refine cO (aq.mk ?_);have:iU l=4:=Bk h9 λh=>by
    obtain⟨t,rfl,h2,h3⟩:=h;obtain⟨x,r,e,_⟩:=t.tB;have h0:t.flat[0]?=some x:=by rw[e];rfl
    rw[(xp h0).2 ((Kb h0).2 ⟨t,rfl,h2,h3⟩)]at hq;cases hq
   rw[<-this];exact hR _
 | true =>
   refine cz ?_;rw[mK m1];refine⟨d8,?_⟩;cases h0:l[0]? with
   | none=>unfold nR at hq;rw[h0]at hq;cases hq
   | some x0 =>
     have hr:=(xp h0).1 hq;obtain⟨t,rfl,h2,h3⟩:=(Kb h0).1 hr;have cD:t.flat≠[]:=by intro e;rw[e]at h0;cases h0
     have gj:=(Fm cD (by
      obtain⟨y,r,e,_⟩:=t.tB;rw[e]at h0 ⊢;simp at h0;subst h0;have:=hr.2.1;rw[e]at this;exact this) hr.2.2)
     refine (GL hv hc d6 cD (λx hx=>?_) ?_).go ?_
     . obtain⟨n,hn,rfl⟩:=List.getElem_of_mem hx;have:=gj.1.2.2 n t.flat[n] (by simp[hn]);omega
     . have:=gj.1.2.1;omega
     . rw[EU];have Ih:iU t.flat=if 60<t.deep\/24<t.kids.length then 5 else 0:=by
        rw[yL t h9];unfold uP;rw[if_neg (by simp[h2,h3])]
       rw[Ih]at hR
       by_cases hg:60<t.deep\/24<t.kids.length
       . rw[if_pos hg]at hR;have:(decide (60<t.deep)||decide (24<t.kids.length)):=by simpa using hg
         rw[this];exact cO (aq.mk (hR _))
       . rw[if_neg hg]at hR;have:(decide (60<t.deep)||decide (24<t.kids.length))=false:=by simpa using hg
         rw[this];exact cz (aq.mk (hR _))
end Go.Rip
