/- Lemmas for the proof: no conditions. -/
import Derived.Test.YtnfpmiiopiinbaaGreatDoorRipZz
import Derived.Test.YtnfpmiiopiinbaaGreatDoorRipQ
import Derived.Test.YtnfpmiiopiinbaaGreatDoorRipF
import Derived.Test.YtnfpmiiopiinbaaGreatDoorRipYa
import Derived.Test.YtnfpmiiopiinbaaGreatDoorRipS
import Derived.Test.YtnfpmiiopiinbaaGreatDoorRipG
set_option linter.unusedVariables false
set_option linter.unusedSimpArgs false
set_option linter.loopingSimpArgs false
namespace Go.Rip
open Go.Proofs Go.RowKit
theorem x6:∀ (f:Nat) (s:aG) (p:Nat) (l:List Tk) {q:Nat} {e:Int},eT f s p l=.bad q e->e ≠ 0
 | 0,s,p,l,q,e,h=>by simp [eT] at h
 | f+1,s,p,l,q,e,h=>by
   simp only [eT] at h
   split at h
   . cases h
   . split at h
     . exact x6 f s _ l h
     . split at h
       . exact x6 f s _ l h
       . split at h
         . rename_i he; cases h; exact he
         . split at h
           . cases h; omega
           . exact x6 f s _ _ h
theorem B9 {s:aG} {p:Nat} {e:Int} (h:iM s=.bad p e):e ≠ 0:=by
 unfold iM at h
 split at h
 split at h
 . rename_i he; cases h; exact he
 . exact x6 _ _ _ _ h
theorem Mh (l:List Tk):eP (sF l) l.length (jI l):=by
 unfold sF
 split
 . rename_i h; subst h; exact .inl ⟨rfl,rfl,rfl⟩
 . exact .inr ⟨_,rfl⟩
def yq (s:aG) (l:List Tk) (h:iM s=.ok l):Rx:=⟨l,s.length,sF l,Mh l,(wX h).1,(wX h).2⟩
theorem VK {U:St} {R:cY->St->Prop} {s:aG} (hs:s.length <= 3000) (h1:∀ p e,iM s=.bad p e->R (.ret (.aH [.aW,.int .i64 p,.int .i64 e])) U)
 (h2:∀ l (h:iM s=.ok l) r ad,dm U ad->U.live r=none->ad.box r=some (rd (yq s l h) 0)->R (.ret (.aH [.box r 0,.int .i64 0,.int .i64 0])) ad):ae K 53 [.str s] U R:=by
 refine Vp ?_
 unfold Xn
 refine (BL s hs).go ?_
 cases hl:iM s with
 | bad p e =>
   have he:=B9 hl
   simp only [uO,bD,List.drop,bC,dS,aj,he,eX,fD,bG]
   exact al.mk (h1 p e hl)
 | ok l =>
   simp only [uO,bD,List.drop,bC,dS,aj,dZ,du,bp,mc]
   refine Cf.go ?_
   refine Bc.go ?_
   have o6:=(Mh l).dh
   refine pM [sF l,.int .i64 0,.int .i64 s.length,zR,se] (by simp [tg,o6,aA,zR,se]) ?_
   rw [hU rfl]
   intro r hr
   exact al.mk (h2 l hl r _ ((dm.refl U).new hr) hr.1 aK)
def mx (s:aG):List Nd × Int × Int:=match iM s with
 | .bad p e=>([],p,e)
 | .ok L=>match jN L s.length (L.length+1) [] 0 with
   | .ok l _=>((kU l).1,0,(kU l).2)
   | .bad j=>([],dc L s.length j,4)
   | .out=>([],0,0)
def zS (p:List Nd × Int × Int):AV:=.aH [.agg [mO p.1],.int .i64 p.2.1,.int .i64 p.2.2]
theorem MJ:∀ l:List Nd,cT (cF l)=true:=fun l=>by
 induction l with
 | nil=>rfl
 | cons x l ih=>show cT (dY x++cF l)=true; simp [dY,cT,closed,ih]
theorem A8 (l:List Nd):closed (mO l)=true:=by
 unfold mO; split
 . rfl
 . exact MJ l
theorem BG (n:Nat) (U:St) (l:List Nd):(cF l).map (resolve (n+1) U)=cF l:=by
 induction l with
 | nil=>rfl
 | cons x l ih =>
   show ((dY x++cF l).map (resolve (n+1) U))=dY x++cF l
   rw [List.map_append,ih]; rfl
theorem Jx (n:Nat) (U:St) (l:List Nd):resolve (n+2) U (mO l)=mO l:=by
 unfold mO; split
 . rfl
 . show AV.vec l.length .jc ((cF l).map (resolve (n+1) U))=_
   rw [BG]
theorem Du (s:aG) (hs:s.length <= 3000):Pure K 18 [.str s] (zS (mx s)):=by
 refine Pure.of' rfl (by simp [zS,closed,cT,A8]) fun R hR=>?_
 refine Vi ?_
 unfold Xg
 rw [cZ]
 intro b2 iW
 have m2:((bV ⟨.e,0⟩).new b2 (.box [.aq])).box b2=some [.aq]:=aK
 generalize (bV _).new b2 _=au at *
 clear iW
 have fin:∀ (ad:St) (t:List Nd) (p e:Int),(∃ x,ad.box b2=some [x])->mx s=(t,p,e) ->
  (aI (some (true,1)) (.box b2 0) (.agg [mO t]) ad).wp K ad (fun _ U=>bF (some (true,1)) (.box b2 0) U fun r0=>al R (AV.aH [r0,.int .i64 p,.int .i64 e]) U) (aa R):=by
  intro ad t p e ⟨x,hx⟩ hp
  rw [dk hx]
  refine ⟨⟨rfl,rfl,by simp⟩,?_⟩
  rw [vD a7]
  refine ⟨by simp [aA],al.mk (hR _ _ ?_)⟩
  rw [hp]
  simp only [aA,Fe,List.take,List.drop,jY,gD,fm,ko,zS]
  show AV.aH [.agg [resolve 3 _ (mO t)],.int .i64 p,.int .i64 e]=_
  rw [Jx 1]
 refine VK hs (fun p e hl=>?_) (fun L hL r aR e1 hrn hr=>?_)
 . have he:=B9 hl
   simp only [bE,bD,List.drop,bC,dS,aj,he,eX,fD,bG]
   refine pM [.aq] rfl ?_
   exact fin au [] _ _ ⟨_,m2⟩ (by unfold mx; rw [hl])
 . simp only [bE,bD,List.drop,bC,dS,aj,dZ,du,bp]
   have hXL:(yq s L hL).L=L:=rfl
   have hXE:(yq s L hL).E=s.length:=rfl
   have tD:mx s=match jN (yq s L hL).L (yq s L hL).E ((yq s L hL).L.length+1) [] 0 with
    | .ok l _=>((kU l).1,0,(kU l).2)
    | .bad j=>([],dc (yq s L hL).L (yq s L hL).E j,4)
    | .out=>([],0,0):=by unfold mx; rw [hL]; rfl
   generalize yq s L hL=X at *
   have LV:b2 ≠ r:=fun e=>by rw [<- e] at hrn; exact cD m2 hrn
   refine ⟨fun m v2 v5 v8 ad=>∃ (i f:Nat) (acc:List Nd) (ks:List AV),m=X.L.length - i/\v2=.box b2 0/\v5=.box r 0/\i <= X.L.length/\X.L.length - i < f/\jN X.L X.E f acc i=jN X.L X.E (X.L.length+1) [] 0/\acc.length <= i/\eE true ks acc/\Grow ad v8 87 1 ks.length ks/\(ks=[]->v8=.aq)/\ad.box r=some (rd X i)/\(∃ x,ad.box b2=some [x]),
    ⟨_,0,X.L.length+1,[],[],rfl,rfl,rfl,by omega,by omega,rfl,by simp,.nil,.inl ⟨rfl,rfl,rfl⟩,fun _=>rfl,hr,_,e1.bg m2⟩,?_⟩
   clear hr e1 m2 hrn
   rintro m v2 v5 v8 bh ⟨i,f,acc,ks,rfl,rfl,rfl,hi,hf,hit,agU,hk,hg,PA,hr,iW⟩
   have p7:=X.small
   simp only [bN,aJ,aZ,df,su hr,rd,List.drop,jQ,X.tr.len,cq,ca]
   cases f with
   | zero=>omega
   | succ f =>
   rw [jN] at hit
   refine ⟨fun aQ=>?_,fun lI=>?_⟩
   . have aQ:i < X.L.length:=by omega
     rw [if_pos aQ] at hit
     refine Og hr hi (fun ns j a bW hp hj fR Ww A=>?_) (fun j bW hp fR hj A=>?_)
     . simp only [bE,bD,List.drop,bC,eI,aj,du,bp]
       rw [hp] at hit
       have hlen:=P7 hp
       rw [gG]
       refine ⟨by omega,?_⟩
       rw [eJ (o:=0) (s:=1) rfl]
       refine ⟨⟨Ww.dh.1,by rw [Ww.dh.2]; rfl,by simp [bO]⟩,?_⟩
       rw [ik,Ww.dh.2]
       refine ⟨rfl,?_⟩
       have hg3:Grow bW v8 87 1 ks.length ks:=by
        rcases hg with h | ⟨τ,r1,r2,r3⟩
        . exact .inl h
        . exact .inr ⟨τ,r1,A.ex.tok (eZ hr r2).symm r2,r3⟩
       have sV:=hk.le
       refine DY (m:=1) (l2:=[a]) hg3 rfl rfl (by omega) (by omega) (fun h=>PA (sw.1 h)) fun cN v' g1 g2 g3=>?_
       obtain ⟨kb,_⟩:=nT hg3 g2
       refine ⟨X.L.length - j,by omega,j,f,acc++ns,ks++[a],rfl,rfl,rfl,hj,by omega,hit,by simp; omega,hk.snoc Ww,by simpa using g1,fun h=>by simp at h,kb A.box,?_⟩
       obtain ⟨x,hx⟩:=iW
       exact ⟨x,kb (A.ex.bg LV hx)⟩
     . simp only [bE,bD,List.drop,bC,eI,aj,fD,bG]
       rw [hp] at hit
       refine pM [.aq] rfl ?_
       obtain ⟨x,hx⟩:=iW
       refine fin bW [] _ _ ⟨x,A.ex.bg LV hx⟩ ?_
       rw [tD,<- hit]; rfl
   . rw [if_neg (by omega)] at hit
     have hv:ks=[]/\v8=.aq\/∃ c,v8=.vec ks.length c ks:=by
      rcases hg with ⟨_,h1,h2⟩ | ⟨τ,r1,_,_⟩
      . exact .inl ⟨h1,h2⟩
      . exact .inr ⟨_,r1⟩
     refine V9 hv hk (by omega) fun bW e3=>?_
     simp only [bE,bD,List.drop,bC]
     rw [cZ]
     intro b12 abb
     obtain ⟨x,hx⟩:=iW
     have m2:=((e3.new abb (x:=.box [.aq])).bg hx)
     have n2:=abb.bX (e3.bg hx)
     have m12:(bW.new b12 (.box [.aq])).box b12=some [.aq]:=aK
     generalize bW.new b12 (.box [.aq])=cN at *
     rw [dk m12]
     refine ⟨⟨rfl,rfl,by simp⟩,?_⟩
     rw [pc a7]
     refine ⟨by simp [aA],?_⟩
     have:(List.take 1 (List.drop 0 (aA [AV.aq] 0 (ax (.agg [mO (kU acc).1])))))=[mO (kU acc).1]:=by simp [aA]
     rw [this]
     refine fin _ (kU acc).1 0 (kU acc).2 ⟨x,by rw [aY n2]; exact m2⟩ ?_
     rw [tD,<- hit]
end Go.Rip
namespace Go.Rip
open Go.Proofs Go.RowKit
structure Sl (v:AV) (l:List Nd):Prop where
 s:eP v l.length (cF l)
 c:closed v=true
theorem Ey (l:List Nd):Sl (mO l) l:=by
 refine ⟨?_,A8 l⟩
 unfold mO
 split
 . rename_i h; subst h; exact .inl ⟨rfl,rfl,rfl⟩
 . exact .inr ⟨_,rfl⟩
theorem Sl.jD {v:AV} {l:List Nd} (h:Sl v l) (U:St):BR U v l:=h.s.abC
theorem Sl.cl {v:AV} {l:List Nd} (h:Sl v l):closed (.agg [v])=true:=by simp [closed,cT,h.c]
theorem iz {b o k:Nat} {U:St} {K':AV->St->Prop} {Kp:AV->St->Prop} (h:K' (.box b (o+k)) U):(af (some k) (.box b o)).wp K U K' Kp:=h
theorem tV {b:Nat} {v:AV} {U τ:St} {K':AV->St->Prop} {Kp:AV->St->Prop} (hb:U.box b=some [v]) (h:K' (.agg [v]) τ):(ak (some (true,1)) (.box b 0) U).wp K τ K' Kp:=by
 rw [pc hb]; exact ⟨by simp,h⟩
theorem acG {mu:Bool} {e sz m:Nat} {y:AV} {l2:List AV} {U:St} {K':AV->St->Prop} {Kp:AV->St->Prop} (hy:rI U y=some (m,l2)) (hl:l2.length=m * sz) (hb:m <= 4294967296)
 (h0:m=0->K' .aq U) (h1:m ≠ 0->mu=true->∀ b,U.dA b->K' (.ms b 0 m sz e) (U.new b (.box l2))) (h2:m ≠ 0->mu=false->∀ b,U.dA b->K' (.vec m (.own b) l2) (U.new b (.tok ⟨m,e,sz⟩))):(eR (some (e,sz)) mu .aq y U).wp K U K' Kp:=by
 simp only [eR,hy,wp_cond]
 refine ⟨hl,?_⟩
 by_cases hm:m=0
 . rw [if_pos hm,aj]; exact h0 hm
 . rw [if_neg hm,wp_cond]
   refine ⟨hb,?_⟩
   cases mu with
   | true=>exact fun b fC=>h1 hm rfl b fC
   | false=>exact fun b fC=>h2 hm rfl b fC
theorem KK {n b k z e:Nat} {U:St} {L:List AV} (h:U.box b=some L):resolve (n+1) U (.ms b 0 k z e)=.vec k .jc (L.map (resolve n U)):=by
 rw [resolve,h]; rfl
theorem KJ {n b:Nat} {U:St} {l:List Nd} (h:U.box b=some (cF l)) (h0:l ≠ []):resolve (n+2) U (.ms b 0 l.length 6 43)=mO l:=by
 rw [KK h,BG,mO,if_neg h0]
theorem OX {v:AV} {l:List Nd} (hv:Sl v l) (hl:l.length <= 100000):Pure K 26 [.agg [v]] (.agg [mO l]):=by
 refine Pure.of' (by simp [cT,hv.cl]) (Ey l).cl fun R hR=>?_
 refine Vk ?_
 unfold Xi
 rw [hU rfl]
 intro b1 jM
 have m1:((bV ⟨.e,0⟩).new b1 (.box (ax (.agg [v])))).box b1=some [v]:=aK
 generalize (bV _).new b1 _=au at *
 rw [cZ]
 intro b2 iW
 have m2:(au.new b2 (.box [AV.aq])).box b2=some [.aq]:=aK
 have m1:=(bB iW (x:=.box [AV.aq])).bg m1
 generalize au.new b2 (.box [AV.aq])=aR at *
 refine iz (eO m1 rfl ?_)
 refine acG (hv.jD _).src (qf l ▸ by omega) (by omega) (fun h0=>?_) (fun h1 _ b hb=>?_) (fun _ h=>by cases h)
 . have:l=[]:=sw.1 h0
   subst this
   refine pM [.aq] rfl ?_
   rw [dk m2]
   refine ⟨⟨rfl,rfl,by simp⟩,?_⟩
   rw [vD a7]
   exact ⟨by simp [aA],al.mk (hR _ _ rfl)⟩
 . have cr:=hb.bX m2
   refine pM [.ms b 0 l.length 6 43] rfl ?_
   rw [dk (show (aR.new b (.box (cF l))).box b2=some _ by rw [pB cr]; exact m2)]
   refine ⟨⟨rfl,rfl,by simp⟩,?_⟩
   rw [vD a7]
   refine ⟨by simp [aA],al.mk (hR _ _ ?_)⟩
   have yP:((aR.new b (.box (cF l))).set b2 (.box (aA [AV.aq] 0 (ax (.agg [.ms b 0 l.length 6 43]))))).box b=some (cF l):=by
    rw [aY cr.symm,aK]
   generalize (aR.new b (.box (cF l))).set b2 _=bh at *
   show AV.agg [resolve 4 bh (.ms b 0 l.length 6 43)]=_
   have:l ≠ []:=fun e=>h1 (by rw [e]; rfl)
   rw [KJ yP this]
noncomputable def nq (l:List Nd) (p:Int):Int:=if gp l ≠ 0 then gp l else if p < 0\/(l.length:Int) <= p then 3 else 0
theorem OB {l:List Nd} {p:Int} (h:nq l p=0):∃ (n:Nat) (t s:Tre),p=n/\l=t.flat/\t.kind=1/\t.ok=true/\n < l.length/\gn l n s:=by
 unfold nq at h
 split at h
 . rename_i hc; exact absurd h hc
 . rename_i hc
   split at h
   . cases h
   . rename_i hp
     have hc:gp l=0:=Classical.not_not.1 hc
     have h9:¬ 900 < l.length:=fun h=>by unfold gp at hc; rw [if_pos h] at hc; cases hc
     have:∃ t:Tre,l=t.flat/\t.kind=1/\t.ok=true:=Classical.not_not.1 fun h=>by rw [tM h9 h] at hc; cases hc
     obtain ⟨t,rfl,h1,h2⟩:=this
     obtain ⟨⟨s,_,hs,_⟩,_⟩:=place t (i:=p.toNat) (by omega)
     exact ⟨p.toNat,t,s,by omega,rfl,h1,h2,by omega,hs⟩
end Go.Rip
namespace Go.Rip
open Go.Proofs Go.RowKit
theorem Te {l:List Nd} {n:Nat} {x:Nd} (h:l[n]?=some x):gw l n=x.size.toNat:=by unfold gw; rw [h]; rfl
def upF (l:List Nd) (p:Nat):Nat->Nat
 | 0=>0
 | i+1=>if i+1+gw l (i+1) <= p then upF l p i else i+1
theorem MY {t:Tre}:CD t.flat:=((Gs t.flat).2 ⟨t,rfl⟩).1
end Go.Rip
namespace Go.Rip
open Go.Proofs Go.RowKit
theorem V8 {a b n:Int} {U:St} {K':AV->St->Prop} {Kp:AV->St->Prop} (h:K' (.bool (decide (a <= n/\n <= b))) U):ae K 122 [.int .i64 a,.int .i64 b,.int .i64 n] U (ag K' Kp):=(qj a b n).go h
theorem xy {l:List Nd} {p:Int} (h:gp l ≠ 0):nq l p=gp l:=by unfold nq; rw [if_pos h]
theorem TH {l:List Nd} {p:Int} (h:gp l=0) (hp:¬ (0 <= p/\p <= (l.length:Int) - 1)):nq l p=3:=by unfold nq; rw [if_neg (by simp [h]),if_pos (by omega)]
theorem D9 {l:List Nd} {p:Int} (h:gp l=0) (hp:0 <= p/\p <= (l.length:Int) - 1):nq l p=0:=by unfold nq; rw [if_neg (by simp [h]),if_neg (by omega)]
def Wc (R:cY->St->Prop) (z:AV):cY->St->Prop:=fun r U=>∃ x e,r=.ret (.aH [x,.int .i64 e])/\(e ≠ 0->R (.ret (.aH [z,.int .i64 e])) U)/\(e=0->R (.ret (.aH [x,.int .i64 0])) U)
section
variable {U:St} {R:cY->St->Prop} {v:AV} {l:List Nd} {p:Int} {g:FuncId} {fs cs:List AV}
theorem acN (hg:fw K.P g=true) {a:List AV} {K':AV->St->Prop} {Kp:AV->St->Prop}:(jk K.P (.func (.func g) fs cs) a).wp K U K' Kp=ae K g (fs++a++cs) U (ag K' Kp):=by
 simp only [jk,hg,if_true,lR]
theorem Yd {z:AV} {ad:St} {a:List AV} (h:ae K g a ad (Wc R z)) :
 ae K g a ad (ag (fun ep U=>(aX ep 0).wp K U (fun v30 U=>(aX ep 1).wp K U (fun v31 U=>(aw .neq (BT.mk false false false none false) true v31 (AV.int .i64 0)).wp K U (fun fQ U =>
  av fQ (al R (AV.aH [z,v31]) U) (al R (AV.aH [v30,(AV.int .i64 0)]) U)) (aa R)) (aa R)) (aa R)) (aa R)):=by
 refine h.mono fun r τ hr=>?_
 obtain ⟨x,e,rfl,h1,h2⟩:=hr
 simp only [bE,bD,List.drop,bC,dS,aj]
 by_cases he:e=0
 . simp only [he,dZ,du]
   exact eF (al.mk (h2 he))
 . simp only [he,eX,fD]
   exact eH (al.mk (h1 he))
end
end Go.Rip
namespace Go.Rip
open Go.Proofs Go.RowKit
theorem Grow.jo {r:Nat} {U ad:St} {v:AV} {e sz n:Nat} {l L L':List AV} (h:Grow U v e sz n l) (hr:U.box r=some L) (A:gT r L' U ad):Grow ad v e sz n l:=by
 rcases h with h | ⟨τ,r1,r2,r3⟩
 . exact .inl h
 . exact .inr ⟨τ,r1,A.ex.tok (eZ hr r2).symm r2,r3⟩
end Go.Rip
