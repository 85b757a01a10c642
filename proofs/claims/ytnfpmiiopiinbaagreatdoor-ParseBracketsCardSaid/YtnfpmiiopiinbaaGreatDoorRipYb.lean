/- Lemmas for the proof: no conditions. -/
import Derived.Test.YtnfpmiiopiinbaaGreatDoorRipZz
import Derived.Test.YtnfpmiiopiinbaaGreatDoorRipQ
import Derived.Test.YtnfpmiiopiinbaaGreatDoorRipF
import Derived.Test.YtnfpmiiopiinbaaGreatDoorRipYa
import Derived.Test.YtnfpmiiopiinbaaGreatDoorRipS
import Derived.Test.YtnfpmiiopiinbaaGreatDoorRipG
set_option linter.unusedVariables false
set_option linter.unusedSimpArgs false
set_option linter.loopingSimpArgs false
namespace Go.Rip
open Go.Proofs Go.RowKit
theorem ze:∀ (f:Nat) (s:aG) (p:Nat) (l:List Tk) {q:Nat} {e:Int},eR f s p l=.bad q e->e≠0
 | 0,s,p,l,q,e,h=>by simp[eR]at h
 | f+1,s,p,l,q,e,h=>by
   simp only[eR]at h;split at h
   . cases h
   . split at h
     . exact ze f s _ l h
     . split at h
       . exact ze f s _ l h
       . split at h
         . rename_i he; cases h; exact he
         . split at h
           . cases h; omega
           . exact ze f s _ _ h
theorem DF {s:aG} {p:Nat} {e:Int} (h:ix s=.bad p e):e≠0:=by
 unfold ix at h;split at h;split at h
 . rename_i he; cases h; exact he
 . exact ze _ _ _ _ h
theorem yx (l:List Tk):eW (iB l) l.length (gO l):=by
 unfold iB;split
 . rename_i h; subst h; exact .inl ⟨rfl,rfl,rfl⟩
 . exact .inr ⟨_,rfl⟩
def zF (s:aG) (l:List Tk) (h:ix s=.ok l):Rx:=⟨l,s.length,iB l,yx l,(vn h).1,(vn h).2⟩
theorem YJ {U:St} {R:cV->St->Prop} {s:aG} (hs:s.length<=3000) (h1:∀ p e,ix s=.bad p e->R (.ret (.aK [.a8,.int .i64 p,.int .i64 e])) U)
 (h2:∀ l (h:ix s=.ok l) r ad,cX U ad->U.live r=none->ad.box r=some (rd (zF s l h) 0)->R (.ret (.aK [.box r 0,.int .i64 0,.int .i64 0])) ad):ae K 53 [.str s] U R:=by
 refine Yl ?_;unfold aaq;refine (ua s hs).go ?_;cases hl:ix s with
 | bad p e =>
   have he:=DF hl;simp only[sT,bp,List.drop,bC,c8,al,he,eS,fx,bH];exact aq.mk (h1 p e hl)
 | ok l =>
   simp only[sT,bp,List.drop,bC,c8,al,dG,dm,bq,ou];refine DL.go ?_;refine CL.go ?_;have pQ:=(yx l).dw;refine pK [iB l,.int .i64 0,.int .i64 s.length,Bq,tu] (by simp[uB,pQ,ay,Bq,tu]) ?_;rw[gd rfl];intro r hr;exact aq.mk (h2 l hl r _ ((cX.refl U).new hr) hr.1 aD)
def kZ (s:aG):List Nd×Int×Int:=match ix s with
 | .bad p e=>([],p,e)
 | .ok L=>match ku L s.length (L.length+1) [] 0 with
   | .ok l _=>((lQ l).1,0,(lQ l).2)
   | .bad j=>([],dv L s.length j,4)
   | .out=>([],0,0)
def Br (p:List Nd×Int×Int):AV:=.aK [.agg [fg p.1],.int .i64 p.2.1,.int .i64 p.2.2]
theorem Pv:∀ l:List Nd,cD (cg l)=true:=λ l=>by
 induction l with
 | nil=>rfl
 | cons x l ih=>show cD (dA x++cg l)=true; simp[dA,cD,closed,ih]
theorem qR (l:List Nd):closed (fg l)=true:=by
 unfold fg; split
 . rfl
 . exact Pv l
theorem Dd (n:Nat) (U:St) (l:List Nd):(cg l).map (resolve (n+1) U)=cg l:=by
 induction l with
 | nil=>rfl
 | cons x l ih =>
   show ((dA x++cg l).map (resolve (n+1) U))=dA x++cg l;rw[List.map_append,ih]; rfl
theorem BD (n:Nat) (U:St) (l:List Nd):resolve (n+2) U (fg l)=fg l:=by
 unfold fg; split
 . rfl
 . show AV.vec l.length .iE ((cg l).map (resolve (n+1) U))=_;rw[Dd]
theorem Fe (s:aG) (hs:s.length<=3000):Pure K 18 [.str s] (Br (kZ s)):=by
 refine Pure.OF rfl (by simp[Br,closed,cD,qR]) λ R hR=>?_;refine Yb ?_;unfold aag;rw[cm];intro b2 gz;have m2:((bU ⟨.e,0⟩).new b2 (.box [.ag])).box b2=some [.ag]:=aD;generalize (bU _).new b2 _=ar at *;clear gz;have fin:∀ (ad:St) (t:List Nd) (p e:Int),(∃ x,ad.box b2=some [x])->kZ s=(t,p,e) ->
  (aI (some (true,1)) (.box b2 0) (.agg [fg t]) ad).wp K ad (λ _ U=>bD (some (true,1)) (.box b2 0) U λ r0=>aq R (AV.aK [r0,.int .i64 p,.int .i64 e]) U) (aa R):=by
  intro ad t p e ⟨x,hx⟩ hp;rw[cI hx];refine⟨⟨rfl,rfl,by simp⟩,?_⟩;rw[pT aT];refine⟨by simp[ay],aq.mk (hR _ _ ?_)⟩;rw[hp];simp only[ay,Hc,List.take,List.drop,eH,gx,eX,k0,Br];show AV.aK [.agg [resolve 3 _ (fg t)],.int .i64 p,.int .i64 e]=_;rw[BD 1]
 refine YJ hs (λ p e hl=>?_) (λ L hL r aS e1 hrn hr=>?_)
 . have he:=DF hl;simp only[bE,bp,List.drop,bC,c8,al,he,eS,fx,bH];refine pK [.ag] rfl ?_;exact fin ar [] _ _ ⟨_,m2⟩ (by unfold kZ; rw[hl])
 . simp only[bE,bp,List.drop,bC,c8,al,dG,dm,bq];have hXL:(zF s L hL).L=L:=rfl;have hXE:(zF s L hL).E=s.length:=rfl;have uP:kZ s=match ku (zF s L hL).L (zF s L hL).E ((zF s L hL).L.length+1) [] 0 with
    | .ok l _=>((lQ l).1,0,(lQ l).2)
    | .bad j=>([],dv (zF s L hL).L (zF s L hL).E j,4)
    | .out=>([],0,0):=by unfold kZ; rw[hL]; rfl
   generalize zF s L hL=X at *;have OC:b2≠r:=λ e=>by rw[<- e]at hrn; exact ct m2 hrn
   refine⟨λ m v2 v5 v8 ad=>∃ (i f:Nat) (acc:List Nd) (ks:List AV),m=X.L.length-i/\v2=.box b2 0/\v5=.box r 0/\i<=X.L.length/\X.L.length-i<f/\ku X.L X.E f acc i=ku X.L X.E (X.L.length+1) [] 0/\acc.length<=i/\eV true ks acc/\Grow ad v8 87 1 ks.length ks/\(ks=[]->v8=.ag)/\ad.box r=some (rd X i)/\(∃ x,ad.box b2=some [x]),
    ⟨_,0,X.L.length+1,[],[],rfl,rfl,rfl,by omega,by omega,rfl,by simp,.nil,.inl ⟨rfl,rfl,rfl⟩,λ _=>rfl,hr,_,e1.aY m2⟩,?_⟩
   clear hr e1 m2 hrn;rintro m v2 v5 v8 bf ⟨i,f,acc,ks,rfl,rfl,rfl,hi,hf,hit,akx,hk,hg,Su,hr,gz⟩;have qX:=X.small;simp only[bW,aJ,bh,db,tH hr,rd,List.drop,jE,X.tr.len,bV,cq];cases f with
   | zero=>omega
   | succ f =>
   rw[ku]at hit;refine⟨λ aN=>?_,λ kV=>?_⟩
   . have aN:i<X.L.length:=by omega
     rw[if_pos aN]at hit;refine Q1 hr hi (λ ns j a bR hp hj gq Zz A=>?_) (λ j bR hp gq hj A=>?_)
     . simp only[bE,bp,List.drop,bC,eT,al,dm,bq];rw[hp]at hit;have hlen:=SY hp;rw[hZ];refine⟨by omega,?_⟩;rw[ff (o:=0) (s:=1) rfl];refine⟨⟨Zz.dw.1,by rw[Zz.dw.2]; rfl,by simp[bT]⟩,?_⟩;rw[ja,Zz.dw.2];refine⟨rfl,?_⟩;have hg3:Grow bR v8 87 1 ks.length ks:=by
        rcases hg with h|⟨τ,r1,r2,r3⟩
        . exact .inl h
        . exact .inr ⟨τ,r1,A.ex.tok (fB hr r2).symm r2,r3⟩
       have ta:=hk.le;refine FM (m:=1) (l2:=[a]) hg3 rfl rfl (by omega) (by omega) (λ h=>Su (rL.1 h)) λ cP v' g1 g2 g3=>?_;obtain⟨kb,_⟩:=oO hg3 g2;refine⟨X.L.length-j,by omega,j,f,acc++ns,ks++[a],rfl,rfl,rfl,hj,by omega,hit,by simp; omega,hk.snoc Zz,by simpa using g1,λ h=>by simp at h,kb A.box,?_⟩;obtain⟨x,hx⟩:=gz;exact⟨x,kb (A.ex.aY OC hx)⟩
     . simp only[bE,bp,List.drop,bC,eT,al,fx,bH];rw[hp]at hit;refine pK [.ag] rfl ?_;obtain⟨x,hx⟩:=gz;refine fin bR [] _ _ ⟨x,A.ex.aY OC hx⟩ ?_;rw[uP,<- hit]; rfl
   . rw[if_neg (by omega)]at hit;have hv:ks=[]/\v8=.ag\/∃ c,v8=.vec ks.length c ks:=by
      rcases hg with ⟨_,h1,h2⟩|⟨τ,r1,_,_⟩
      . exact .inl ⟨h1,h2⟩
      . exact .inr ⟨_,r1⟩
     refine Za hv hk (by omega) λ bR e3=>?_;simp only[bE,bp,List.drop,bC];rw[cm];intro b12 aep;obtain⟨x,hx⟩:=gz;have m2:=((e3.new aep (x:=.box [.ag])).aY hx);have n2:=aep.bO (e3.aY hx);have m12:(bR.new b12 (.box [.ag])).box b12=some [.ag]:=aD;generalize bR.new b12 (.box [.ag])=cP at *;rw[cI m12];refine⟨⟨rfl,rfl,by simp⟩,?_⟩;rw[ph aT];refine⟨by simp[ay],?_⟩;have:(List.take 1 (List.drop 0 (ay [AV.ag] 0 (av (.agg [fg (lQ acc).1])))))=[fg (lQ acc).1]:=by simp[ay]
     rw[this];refine fin _ (lQ acc).1 0 (lQ acc).2 ⟨x,by rw[aO n2]; exact m2⟩ ?_;rw[uP,<- hit]
end Go.Rip
namespace Go.Rip
open Go.Proofs Go.RowKit
structure Sl (v:AV) (l:List Nd):Prop where
 s:eW v l.length (cg l)
 c:closed v=true
theorem Ck (l:List Nd):Sl (fg l) l:=by
 refine⟨?_,qR l⟩;unfold fg;split
 . rename_i h; subst h; exact .inl ⟨rfl,rfl,rfl⟩
 . exact .inr ⟨_,rfl⟩
theorem Sl.kg {v:AV} {l:List Nd} (h:Sl v l) (U:St):sj U v l:=h.s.aeT
theorem Sl.cl {v:AV} {l:List Nd} (h:Sl v l):closed (.agg [v])=true:=by simp[closed,cD,h.c]
theorem gR {b o k:Nat} {U:St} {K':AV->St->Prop} {Kp:AV->St->Prop} (h:K' (.box b (o+k)) U):(af (some k) (.box b o)).wp K U K' Kp:=h
theorem lX {b:Nat} {v:AV} {U τ:St} {K':AV->St->Prop} {Kp:AV->St->Prop} (hb:U.box b=some [v]) (h:K' (.agg [v]) τ):(ak (some (true,1)) (.box b 0) U).wp K τ K' Kp:=by
 rw[ph hb]; exact⟨by simp,h⟩
theorem Wq {mu:Bool} {e sz m:Nat} {y:AV} {l2:List AV} {U:St} {K':AV->St->Prop} {Kp:AV->St->Prop} (hy:pa U y=some (m,l2)) (hl:l2.length=m*sz) (hb:m<=4294967296)
 (h0:m=0->K' .ag U) (h1:m≠0->mu=true->∀ b,U.dL b->K' (.ms b 0 m sz e) (U.new b (.box l2))) (h2:m≠0->mu=false->∀ b,U.dL b->K' (.vec m (.own b) l2) (U.new b (.tok ⟨m,e,sz⟩))):(dB (some (e,sz)) mu .ag y U).wp K U K' Kp:=by
 simp only[dB,hy,wp_cond];refine⟨hl,?_⟩
 by_cases hm:m=0
 . rw[if_pos hm,al]; exact h0 hm
 . rw[if_neg hm,wp_cond];refine⟨hb,?_⟩;cases mu with
   | true=>exact λ b eY=>h1 hm rfl b eY
   | false=>exact λ b eY=>h2 hm rfl b eY
theorem Ni {n b k z e:Nat} {U:St} {L:List AV} (h:U.box b=some L):resolve (n+1) U (.ms b 0 k z e)=.vec k .iE (L.map (resolve n U)):=by
 rw[resolve,h]; rfl
theorem Dc {n b:Nat} {U:St} {l:List Nd} (h:U.box b=some (cg l)) (h0:l≠[]):resolve (n+2) U (.ms b 0 l.length 6 43)=fg l:=by
 rw[Ni h,Dd,fg,if_neg h0]
theorem Hf {v:AV} {l:List Nd} (hv:Sl v l) (hl:l.length<=100000):Pure K 26 [.agg [v]] (.agg [fg l]):=by
 refine Pure.OF (by simp[cD,hv.cl]) (Ck l).cl λ R hR=>?_;refine Ye ?_;unfold aaj;rw[gd rfl];intro b1 iN;have m1:((bU ⟨.e,0⟩).new b1 (.box (av (.agg [v])))).box b1=some [v]:=aD;generalize (bU _).new b1 _=ar at *;rw[cm];intro b2 gz;have m2:(ar.new b2 (.box [AV.ag])).box b2=some [.ag]:=aD;have m1:=(bg gz (x:=.box [AV.ag])).aY m1;generalize ar.new b2 (.box [AV.ag])=aS at *;refine gR (ej m1 rfl ?_);refine Wq (hv.kg _).src (mf l▸by omega) (by omega) (λ h0=>?_) (λ h1 _ b hb=>?_) (λ _ h=>by cases h)
 . have:l=[]:=rL.1 h0;subst this;refine pK [.ag] rfl ?_;rw[cI m2];refine⟨⟨rfl,rfl,by simp⟩,?_⟩;rw[pT aT];exact⟨by simp[ay],aq.mk (hR _ _ rfl)⟩
 . have ca:=hb.bO m2;refine pK [.ms b 0 l.length 6 43] rfl ?_;rw[cI (show (aS.new b (.box (cg l))).box b2=some _ by rw[oU ca]; exact m2)];refine⟨⟨rfl,rfl,by simp⟩,?_⟩;rw[pT aT];refine⟨by simp[ay],aq.mk (hR _ _ ?_)⟩;have wC:((aS.new b (.box (cg l))).set b2 (.box (ay [AV.ag] 0 (av (.agg [.ms b 0 l.length 6 43]))))).box b=some (cg l):=by
    rw[aO ca.symm,aD]
   generalize (aS.new b (.box (cg l))).set b2 _=bf at *;show AV.agg [resolve 4 bf (.ms b 0 l.length 6 43)]=_;have:l≠[]:=λ e=>h1 (by rw[e]; rfl);rw[Dc wC this]
noncomputable def lG (l:List Nd) (p:Int):Int:=if fR l≠0 then fR l else if p<0\/(l.length:Int)<=p then 3 else 0
theorem G3 {l:List Nd} {p:Int} (h:lG l p=0):∃ (n:Nat) (t s:Tre),p=n/\l=t.flat/\t.kind=1/\t.ok=true/\n<l.length/\gT l n s:=by
 unfold lG at h;split at h
 . rename_i hc; exact absurd h hc
 . rename_i hc;split at h
   . cases h
   . rename_i hp;have hc:fR l=0:=Classical.not_not.1 hc;have h9:¬ 900<l.length:=λ h=>by unfold fR at hc; rw[if_pos h]at hc; cases hc
     have:∃ t:Tre,l=t.flat/\t.kind=1/\t.ok=true:=Classical.not_not.1 λ h=>by rw[uW h9 h]at hc; cases hc
     obtain⟨t,rfl,h1,h2⟩:=this;obtain⟨⟨s,_,hs,_⟩,_⟩:=place t (i:=p.toNat) (by omega);exact⟨p.toNat,t,s,by omega,rfl,h1,h2,by omega,hs⟩
end Go.Rip
namespace Go.Rip
open Go.Proofs Go.RowKit
theorem V9 {l:List Nd} {n:Nat} {x:Nd} (h:l[n]?=some x):gV l n=x.size.toNat:=by unfold gV; rw[h]; rfl
def upF (l:List Nd) (p:Nat):Nat->Nat
 | 0=>0
 | i+1=>if i+1+gV l (i+1)<=p then upF l p i else i+1
theorem PJ {t:Tre}:Ed t.flat:=((IA t.flat).2 ⟨t,rfl⟩).1
end Go.Rip
namespace Go.Rip
open Go.Proofs Go.RowKit
theorem My {a b n:Int} {U:St} {K':AV->St->Prop} {Kp:AV->St->Prop} (h:K' (.bool (decide (a<=n/\n<=b))) U):ae K 122 [.int .i64 a,.int .i64 b,.int .i64 n] U (ah K' Kp):=(rk a b n).go h
theorem ti {l:List Nd} {p:Int} (h:fR l≠0):lG l p=fR l:=by unfold lG; rw[if_pos h]
theorem JJ {l:List Nd} {p:Int} (h:fR l=0) (hp:¬ (0<=p/\p<=(l.length:Int)-1)):lG l p=3:=by unfold lG; rw[if_neg (by simp[h]),if_pos (by omega)]
theorem BZ {l:List Nd} {p:Int} (h:fR l=0) (hp:0<=p/\p<=(l.length:Int)-1):lG l p=0:=by unfold lG; rw[if_neg (by simp[h]),if_neg (by omega)]
def Zd (R:cV->St->Prop) (z:AV):cV->St->Prop:=λ r U=>∃ x e,r=.ret (.aK [x,.int .i64 e])/\(e≠0->R (.ret (.aK [z,.int .i64 e])) U)/\(e=0->R (.ret (.aK [x,.int .i64 0])) U)
section
variable {U:St} {R:cV->St->Prop} {v:AV} {l:List Nd} {p:Int} {g:FuncId} {fs cs:List AV}
theorem Ws (hg:fC K.P g=true) {a:List AV} {K':AV->St->Prop} {Kp:AV->St->Prop}:(jz K.P (.func (.func g) fs cs) a).wp K U K' Kp=ae K g (fs++a++cs) U (ah K' Kp):=by
 simp only[jz,hg,if_true,mL]
theorem abj {z:AV} {ad:St} {a:List AV} (h:ae K g a ad (Zd R z)) :
 ae K g a ad (ah (λ ef U=>(aU ef 0).wp K U (λ v30 U=>(aU ef 1).wp K U (λ v31 U=>(aw .neq (BT.mk false false false none false) true v31 (AV.int .i64 0)).wp K U (λ gj U =>
  ax gj (aq R (AV.aK [z,v31]) U) (aq R (AV.aK [v30,(AV.int .i64 0)]) U)) (aa R)) (aa R)) (aa R)) (aa R)):=by
 refine h.mono λ r τ hr=>?_;obtain⟨x,e,rfl,h1,h2⟩:=hr;simp only[bE,bp,List.drop,bC,c8,al]
 by_cases he:e=0
 . simp only[he,dG,dm];exact cY (aq.mk (h2 he))
 . simp only[he,eS,fx];exact dz (aq.mk (h1 he))
end
end Go.Rip
namespace Go.Rip
open Go.Proofs Go.RowKit
section
variable {v:AV} {l:List Nd}
theorem WK {U:St} {R:cV->St->Prop} {c:mr} (h0:l≠[]) (hl:l.length<=100000) (h:∀ ad b,cX U ad->U.live b=none->ad.box b=some (cg l)->R (.ret (.ms b 0 l.length 6 43)) ad):ae K 89 [.vec l.length c (cg l)] U R:=by
 refine YA ?_;unfold aaF;rw[show aw .eql (BT.mk false false false none true) true (.vec l.length c (cg l)) .ag=.val (.bool false) from rfl,al];refine cY ?_;rw[ux];refine⟨by omega,?_⟩;rw[yE];refine⟨rfl,λ b hb=>?_⟩;have Hq:(U.new b (.box (bT 0 [AV.int .u8 0,AV.str [],AV.int .i64 0,AV.int .i64 0,AV.int .i64 0,AV.int .i64 0]))).box b=some []:=aD;refine BV Hq rfl ⟨mf l▸by omega,by simp,by omega⟩ λ b' eY=>?_;rw[db];have e1:=(bg hb (x:=.box (bT 0 [AV.int .u8 0,AV.str [],AV.int .i64 0,AV.int .i64 0,AV.int .i64 0,AV.int .i64 0]))).del (b:=b) hb.1;exact aq.mk (h _ b' (e1.new eY) (e1.fresh eY.1) (by rw[aD]; rfl))
end
end Go.Rip
namespace Go.Rip
open Go.Proofs Go.RowKit
theorem Grow.jR {r:Nat} {U ad:St} {v:AV} {e sz n:Nat} {l L L':List AV} (h:Grow U v e sz n l) (hr:U.box r=some L) (A:iD r L' U ad):Grow ad v e sz n l:=by
 rcases h with h|⟨τ,r1,r2,r3⟩
 . exact .inl h
 . exact .inr ⟨τ,r1,A.ex.tok (fB hr r2).symm r2,r3⟩
end Go.Rip
