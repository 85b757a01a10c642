/- Lemmas for the proof: no conditions. -/
import Derived.Test.YtnfpmiiopiinbaaGreatDoorRipZz
import Derived.Test.YtnfpmiiopiinbaaGreatDoorRipQ
import Derived.Test.YtnfpmiiopiinbaaGreatDoorRipF
import Derived.Test.YtnfpmiiopiinbaaGreatDoorRipYa
import Derived.Test.YtnfpmiiopiinbaaGreatDoorRipS
import Derived.Test.YtnfpmiiopiinbaaGreatDoorRipG
set_option linter.unusedVariables false
set_option linter.unusedSimpArgs false
set_option linter.loopingSimpArgs false
namespace Go.Rip
open Go.Proofs Go.RowKit
theorem xR:∀ (f:Nat) (s:aK) (p:Nat) (l:List Tk) {q:Nat} {e:Int},fL f s p l=.bad q e->e ≠ 0
 | 0,s,p,l,q,e,h=>by simp [fL] at h
 | f+1,s,p,l,q,e,h=>by
   simp only [fL] at h
   split at h
   . cases h
   . split at h
     . exact xR f s _ l h
     . split at h
       . exact xR f s _ l h
       . split at h
         . rename_i he; cases h; exact he
         . split at h
           . cases h; omega
           . exact xR f s _ _ h
theorem Iy {s:aK} {p:Nat} {e:Int} (h:jY s=.bad p e):e ≠ 0:=by
 unfold jY at h
 split at h
 split at h
 . rename_i he; cases h; exact he
 . exact xR _ _ _ _ h
theorem LF (l:List Tk):eJ (sD l) l.length (jB l):=by
 unfold sD
 split
 . rename_i h; subst h; exact .inl ⟨rfl,rfl,rfl⟩
 . exact .inr ⟨_,rfl⟩
def yg (s:aK) (l:List Tk) (h:jY s=.ok l):Rx:=⟨l,s.length,sD l,LF l,(AD h).1,(AD h).2⟩
theorem Vn {U:St} {R:cR->St->Prop} {s:aK} (hs:s.length <= 3000) (h1:∀ p e,jY s=.bad p e->R (.ret (.aH [.aY,.int .i64 p,.int .i64 e])) U)
 (h2:∀ l (h:jY s=.ok l) r ad,cW U ad->U.live r=none->ad.box r=some (rd (yg s l h) 0)->R (.ret (.aH [.box r 0,.int .i64 0,.int .i64 0])) ad):ae K 53 [.str s] U R:=by
 refine UZ ?_
 unfold W0
 refine (vU s hs).go ?_
 cases hl:jY s with
 | bad p e =>
   have he:=Iy hl
   simp only [ta,bu,List.drop,bA,dp,al,he,eB,eQ,bE]
   exact ak.mk (h1 p e hl)
 | ok l =>
   simp only [ta,bu,List.drop,bA,dp,al,du,c8,bm,oE]
   refine B8.go ?_
   refine A8.go ?_
   have oU:=(LF l).dc
   refine oQ [sD l,.int .i64 0,.int .i64 s.length,zP,sd] (by simp [td,oU,ay,zP,sd]) ?_
   rw [fA rfl]
   intro r hr
   exact ak.mk (h2 l hl r _ ((cW.refl U).new hr) hr.1 aG)
def ov (s:aK):List Nd × Int × Int:=match jY s with
 | .bad p e=>([],p,e)
 | .ok L=>match pc L s.length (L.length+1) [] 0 with
   | .ok l _=>((lE l).1,0,(lE l).2)
   | .bad j=>([],de L s.length j,4)
   | .out=>([],0,0)
def Di (p:List Nd × Int × Int):AV:=.aH [.agg [eT p.1],.int .i64 p.2.1,.int .i64 p.2.2]
theorem CE:∀ l:List Nd,cA (bK l)=true:=fun l=>by
 induction l with
 | nil=>rfl
 | cons x l ih=>show cA (db x++bK l)=true; simp [db,cA,closed,ih]
theorem pX (l:List Nd):closed (eT l)=true:=by
 unfold eT; split
 . rfl
 . exact CE l
theorem BF (n:Nat) (U:St) (l:List Nd):(bK l).map (resolve (n+1) U)=bK l:=by
 induction l with
 | nil=>rfl
 | cons x l ih =>
   show ((db x++bK l).map (resolve (n+1) U))=db x++bK l
   rw [List.map_append,ih]; rfl
theorem z6 (n:Nat) (U:St) (l:List Nd):resolve (n+2) U (eT l)=eT l:=by
 unfold eT; split
 . rfl
 . show AV.vec l.length .iE ((bK l).map (resolve (n+1) U))=_
   rw [BF]
theorem Nj (s:aK) (hs:s.length <= 3000):Pure K 18 [.str s] (Di (ov s)):=by
 refine Pure.PO rfl (by simp [Di,closed,cA,pX]) fun R hR=>?_
 refine UM ?_
 unfold WN
 rw [cz]
 intro b2 gg
 have m2:((bM ⟨.e,0⟩).new b2 (.box [.ah])).box b2=some [.ah]:=aG
 generalize (bM _).new b2 _=aq at *
 clear gg
 have fin:∀ (ad:St) (t:List Nd) (p e:Int),(∃ x,ad.box b2=some [x])->ov s=(t,p,e) ->
  (aF (some (true,1)) (.box b2 0) (.agg [eT t]) ad).wp K ad (fun _ U=>bq (some (true,1)) (.box b2 0) U fun r0=>ak R (AV.aH [r0,.int .i64 p,.int .i64 e]) U) (aa R):=by
  intro ad t p e ⟨x,hx⟩ hp
  rw [cI hx]
  refine ⟨⟨rfl,rfl,by simp⟩,?_⟩
  rw [oW aV]
  refine ⟨by simp [ay],ak.mk (hR _ _ ?_)⟩
  rw [hp]
  simp only [ay,ER,List.take,List.drop,jN,gy,gU,lB,Di]
  show AV.aH [.agg [resolve 3 _ (eT t)],.int .i64 p,.int .i64 e]=_
  rw [z6 1]
 refine Vn hs (fun p e hl=>?_) (fun L hL r aR e1 hrn hr=>?_)
 . have he:=Iy hl
   simp only [bB,bu,List.drop,bA,dp,al,he,eB,eQ,bE]
   refine oQ [.ah] rfl ?_
   exact fin aq [] _ _ ⟨_,m2⟩ (by unfold ov; rw [hl])
 . simp only [bB,bu,List.drop,bA,dp,al,du,c8,bm]
   have hXL:(yg s L hL).L=L:=rfl
   have hXE:(yg s L hL).E=s.length:=rfl
   have tA:ov s=match pc (yg s L hL).L (yg s L hL).E ((yg s L hL).L.length+1) [] 0 with
    | .ok l _=>((lE l).1,0,(lE l).2)
    | .bad j=>([],de (yg s L hL).L (yg s L hL).E j,4)
    | .out=>([],0,0):=by unfold ov; rw [hL]; rfl
   generalize yg s L hL=X at *
   have wQ:b2 ≠ r:=fun e=>by rw [<- e] at hrn; exact cj m2 hrn
   refine ⟨fun m v2 v5 v8 ad=>∃ (i f:Nat) (acc:List Nd) (ks:List AV),m=X.L.length - i/\v2=.box b2 0/\v5=.box r 0/\i <= X.L.length/\X.L.length - i < f/\pc X.L X.E f acc i=pc X.L X.E (X.L.length+1) [] 0/\acc.length <= i/\eA true ks acc/\Grow ad v8 87 1 ks.length ks/\(ks=[]->v8=.ah)/\ad.box r=some (rd X i)/\(∃ x,ad.box b2=some [x]),
    ⟨_,0,X.L.length+1,[],[],rfl,rfl,rfl,by omega,by omega,rfl,by simp,.nil,.inl ⟨rfl,rfl,rfl⟩,fun _=>rfl,hr,_,e1.aX m2⟩,?_⟩
   clear hr e1 m2 hrn
   rintro m v2 v5 v8 a7 ⟨i,f,acc,ks,rfl,rfl,rfl,hi,hf,hit,agO,hk,hg,OU,hr,gg⟩
   have p5:=X.small
   simp only [bS,aJ,aZ,cU,su hr,rd,List.drop,jF,X.tr.len,cb,bY]
   cases f with
   | zero=>omega
   | succ f =>
   rw [pc] at hit
   refine ⟨fun aQ=>?_,fun kn=>?_⟩
   . have aQ:i < X.L.length:=by omega
     rw [if_pos aQ] at hit
     refine ND hr hi (fun ns j a bO hp hj fP VY A=>?_) (fun j bO hp fP hj A=>?_)
     . simp only [bB,bu,List.drop,bA,ey,al,c8,bm]
       rw [hp] at hit
       have hlen:=Pq hp
       rw [gp]
       refine ⟨by omega,?_⟩
       rw [eG (o:=0) (s:=1) rfl]
       refine ⟨⟨VY.dc.1,by rw [VY.dc.2]; rfl,by simp [bN]⟩,?_⟩
       rw [ig,VY.dc.2]
       refine ⟨rfl,?_⟩
       have hg3:Grow bO v8 87 1 ks.length ks:=by
        rcases hg with h | ⟨τ,r1,r2,r3⟩
        . exact .inl h
        . exact .inr ⟨τ,r1,A.ex.tok (eV hr r2).symm r2,r3⟩
       have sU:=hk.le
       refine DK (m:=1) (l2:=[a]) hg3 rfl rfl (by omega) (by omega) (fun h=>OU (sv.1 h)) fun cG v' g1 g2 g3=>?_
       obtain ⟨kb,_⟩:=nG hg3 g2
       refine ⟨X.L.length - j,by omega,j,f,acc++ns,ks++[a],rfl,rfl,rfl,hj,by omega,hit,by simp; omega,hk.snoc VY,by simpa using g1,fun h=>by simp at h,kb A.box,?_⟩
       obtain ⟨x,hx⟩:=gg
       exact ⟨x,kb (A.ex.aX wQ hx)⟩
     . simp only [bB,bu,List.drop,bA,ey,al,eQ,bE]
       rw [hp] at hit
       refine oQ [.ah] rfl ?_
       obtain ⟨x,hx⟩:=gg
       refine fin bO [] _ _ ⟨x,A.ex.aX wQ hx⟩ ?_
       rw [tA,<- hit]; rfl
   . rw [if_neg (by omega)] at hit
     have hv:ks=[]/\v8=.ah\/∃ c,v8=.vec ks.length c ks:=by
      rcases hg with ⟨_,h1,h2⟩ | ⟨τ,r1,_,_⟩
      . exact .inl ⟨h1,h2⟩
      . exact .inr ⟨_,r1⟩
     refine VF hv hk (by omega) fun bO e3=>?_
     simp only [bB,bu,List.drop,bA]
     rw [cz]
     intro b12 aaS
     obtain ⟨x,hx⟩:=gg
     have m2:=((e3.new aaS (x:=.box [.ah])).aX hx)
     have n2:=aaS.bP (e3.aX hx)
     have m12:(bO.new b12 (.box [.ah])).box b12=some [.ah]:=aG
     generalize bO.new b12 (.box [.ah])=cG at *
     rw [cI m12]
     refine ⟨⟨rfl,rfl,by simp⟩,?_⟩
     rw [o5 aV]
     refine ⟨by simp [ay],?_⟩
     have:(List.take 1 (List.drop 0 (ay [AV.ah] 0 (au (.agg [eT (lE acc).1])))))=[eT (lE acc).1]:=by simp [ay]
     rw [this]
     refine fin _ (lE acc).1 0 (lE acc).2 ⟨x,by rw [aO n2]; exact m2⟩ ?_
     rw [tA,<- hit]
end Go.Rip
namespace Go.Rip
open Go.Proofs Go.RowKit
structure Sl (v:AV) (l:List Nd):Prop where
 s:eJ v l.length (bK l)
 c:closed v=true
theorem AF (l:List Nd):Sl (eT l) l:=by
 refine ⟨?_,pX l⟩
 unfold eT
 split
 . rename_i h; subst h; exact .inl ⟨rfl,rfl,rfl⟩
 . exact .inr ⟨_,rfl⟩
theorem Sl.jk {v:AV} {l:List Nd} (h:Sl v l) (U:St):oI U v l:=h.s.Ul
theorem Sl.cl {v:AV} {l:List Nd} (h:Sl v l):closed (.agg [v])=true:=by simp [closed,cA,h.c]
theorem gj {b o k:Nat} {U:St} {K':AV->St->Prop} {Kp:AV->St->Prop} (h:K' (.box b (o+k)) U):(af (some k) (.box b o)).wp K U K' Kp:=h
theorem kx {b:Nat} {v:AV} {U τ:St} {K':AV->St->Prop} {Kp:AV->St->Prop} (hb:U.box b=some [v]) (h:K' (.agg [v]) τ):(aj (some (true,1)) (.box b 0) U).wp K τ K' Kp:=by
 rw [o5 hb]; exact ⟨by simp,h⟩
def sK (l:List Nd):Bool:=decide (l.length <= 1000) && l.all fun x=>decide (x.text.length <= 100)
theorem Ag {l:List Nd}:sK l=true ↔ l.length <= 1000/\∀ x ∈ l,x.text.length <= 100:=by simp [sK]
theorem Ey {v:AV} {l:List Nd} (hv:eJ v l.length (bK l)):Pure K 49 [v] (.bool (sK l)):=by
 intro U R hR
 refine UY ?_
 unfold WZ
 rw [hv.len,al]
 refine SR (gZ (fun h=>?_) fun h=>?_)
 . refine ak.eq hR ?_
   have:sK l=false:=by unfold sK; rw [decide_eq_false (by omega)]; rfl
   rw [this]
 refine ⟨fun m v0 v3 ad=>∃ i:Nat,m=l.length - i/\i <= l.length/\v0=v/\v3=.int .i64 (i:Nat)/\ad=U/\∀ j x,j < i->l[j]?=some x->x.text.length <= 100,⟨_,0,rfl,by omega,rfl,rfl,rfl,fun j x h=>by omega⟩,?_⟩
 rintro m v0 v3 ad ⟨i,rfl,hi,rfl,rfl,rfl,cm⟩
 have hlen:cw (some false) v0=.val (.int .i64 l.length):=hv.len
 rw [hlen,al,cb,al]
 refine gZ (fun aQ=>?_) fun kn=>?_
 . have aQ:i < l.length:=by omega
   obtain ⟨x,hx⟩:∃ x,l[i]?=some x:=⟨l[i],by simp [aQ]⟩
   refine NR hv.Ul hx (show (db x)[1]?=some (.str x.text) from rfl) ?_
   show ((aD.val (.int .i64 x.text.length)).wp K _ _ _)
   rw [al]
   refine SR (gZ (fun h=>?_) fun h=>?_)
   . refine ak.eq hR ?_
     have:sK l=false:=by
      cases ht:sK l with
      | false=>rfl
      | true=>have:=(Ag.1 ht).2 x (gh hx); omega
     rw [this]
   . rw [dN]
     refine ⟨bI (by omega) (by omega),l.length - (i+1),by omega,i+1,rfl,by omega,rfl,by simp,rfl,fun j y hj hy=>?_⟩
     by_cases wE:j=i
     . subst wE; rw [hx] at hy; cases hy; omega
     . exact cm j y (by omega) hy
 . refine ak.eq hR ?_
   have:sK l=true:=Ag.2 ⟨by omega,fun x hx=>by
    obtain ⟨j,hj,rfl⟩:=List.getElem_of_mem hx
    exact cm j _ (by omega) (by simp [hj])⟩
   rw [this]
theorem SI {v:AV} {l:List Nd} (hv:Sl v l):Pure K 24 [.agg [v]] (.bool (sK l)):=by
 refine Pure.of (by simp [cA,hv.cl]) rfl (fun U=>rfl) fun R hR=>?_
 refine UO ?_
 unfold WQ
 rw [fA rfl]
 intro b1 gQ
 have m1:((bM ⟨.e,0⟩).new b1 (.box (au (.agg [v])))).box b1=some [v]:=aG
 generalize (bM _).new b1 _=aq at *
 refine gj (dY m1 rfl ((Ey hv.s).go ?_))
 exact ak.mk (hR _)
theorem ack {mu:Bool} {e sz m:Nat} {y:AV} {l2:List AV} {U:St} {K':AV->St->Prop} {Kp:AV->St->Prop} (hy:rJ U y=some (m,l2)) (hl:l2.length=m * sz) (hb:m <= 4294967296)
 (h0:m=0->K' .ah U) (h1:m ≠ 0->mu=true->∀ b,U.dD b->K' (.ms b 0 m sz e) (U.new b (.box l2))) (h2:m ≠ 0->mu=false->∀ b,U.dD b->K' (.vec m (.own b) l2) (U.new b (.tok ⟨m,e,sz⟩))):(eH (some (e,sz)) mu .ah y U).wp K U K' Kp:=by
 simp only [eH,hy,wp_cond]
 refine ⟨hl,?_⟩
 by_cases hm:m=0
 . rw [if_pos hm,al]; exact h0 hm
 . rw [if_neg hm,wp_cond]
   refine ⟨hb,?_⟩
   cases mu with
   | true=>exact fun b ff=>h1 hm rfl b ff
   | false=>exact fun b ff=>h2 hm rfl b ff
theorem Kh {n b k z e:Nat} {U:St} {L:List AV} (h:U.box b=some L):resolve (n+1) U (.ms b 0 k z e)=.vec k .iE (L.map (resolve n U)):=by
 rw [resolve,h]; rfl
theorem BE {n b:Nat} {U:St} {l:List Nd} (h:U.box b=some (bK l)) (h0:l ≠ []):resolve (n+2) U (.ms b 0 l.length 6 43)=eT l:=by
 rw [Kh h,BF,eT,if_neg h0]
theorem EV {v:AV} {l:List Nd} (hv:Sl v l) (hl:l.length <= 100000):Pure K 26 [.agg [v]] (.agg [eT l]):=by
 refine Pure.PO (by simp [cA,hv.cl]) (AF l).cl fun R hR=>?_
 refine UQ ?_
 unfold WS
 rw [fA rfl]
 intro b1 gQ
 have m1:((bM ⟨.e,0⟩).new b1 (.box (au (.agg [v])))).box b1=some [v]:=aG
 generalize (bM _).new b1 _=aq at *
 rw [cz]
 intro b2 gg
 have m2:(aq.new b2 (.box [AV.ah])).box b2=some [.ah]:=aG
 have m1:=(bg gg (x:=.box [AV.ah])).aX m1
 generalize aq.new b2 (.box [AV.ah])=aR at *
 refine gj (dY m1 rfl ?_)
 refine ack (hv.jk _).src (jU l ▸ by omega) (by omega) (fun h0=>?_) (fun h1 _ b hb=>?_) (fun _ h=>by cases h)
 . have:l=[]:=sv.1 h0
   subst this
   refine oQ [.ah] rfl ?_
   rw [cI m2]
   refine ⟨⟨rfl,rfl,by simp⟩,?_⟩
   rw [oW aV]
   exact ⟨by simp [ay],ak.mk (hR _ _ rfl)⟩
 . have cn:=hb.bP m2
   refine oQ [.ms b 0 l.length 6 43] rfl ?_
   rw [cI (show (aR.new b (.box (bK l))).box b2=some _ by rw [pz cn]; exact m2)]
   refine ⟨⟨rfl,rfl,by simp⟩,?_⟩
   rw [oW aV]
   refine ⟨by simp [ay],ak.mk (hR _ _ ?_)⟩
   have yG:((aR.new b (.box (bK l))).set b2 (.box (ay [AV.ah] 0 (au (.agg [.ms b 0 l.length 6 43]))))).box b=some (bK l):=by
    rw [aO cn.symm,aG]
   generalize (aR.new b (.box (bK l))).set b2 _=a7 at *
   show AV.agg [resolve 4 a7 (.ms b 0 l.length 6 43)]=_
   have:l ≠ []:=fun e=>h1 (by rw [e]; rfl)
   rw [BE yG this]
noncomputable def kz (l:List Nd) (p:Int):Int:=if gx l ≠ 0 then gx l else if p < 0\/(l.length:Int) <= p then 3 else 0
theorem EI {l:List Nd} {p:Int} (h:kz l p=0):∃ (n:Nat) (t s:Tre),p=n/\l=t.flat/\t.kind=1/\t.ok=true/\n < l.length/\gm l n s:=by
 unfold kz at h
 split at h
 . rename_i hc; exact absurd h hc
 . rename_i hc
   split at h
   . cases h
   . rename_i hp
     have hc:gx l=0:=Classical.not_not.1 hc
     have h9:¬ 900 < l.length:=fun h=>by unfold gx at hc; rw [if_pos h] at hc; cases hc
     have:∃ t:Tre,l=t.flat/\t.kind=1/\t.ok=true:=Classical.not_not.1 fun h=>by rw [tL h9 h] at hc; cases hc
     obtain ⟨t,rfl,h1,h2⟩:=this
     obtain ⟨⟨s,_,hs,_⟩,_⟩:=place t (i:=p.toNat) (by omega)
     exact ⟨p.toNat,t,s,by omega,rfl,h1,h2,by omega,hs⟩
end Go.Rip
namespace Go.Rip
open Go.Proofs Go.RowKit
theorem SB {l:List Nd} {n:Nat} {x:Nd} (h:l[n]?=some x):gi l n=x.size.toNat:=by unfold gi; rw [h]; rfl
def upF (l:List Nd) (p:Nat):Nat->Nat
 | 0=>0
 | i+1=>if i+1+gi l (i+1) <= p then upF l p i else i+1
theorem Mn {t:Tre}:Cv t.flat:=((F9 t.flat).2 ⟨t,rfl⟩).1
end Go.Rip
namespace Go.Rip
open Go.Proofs Go.RowKit
theorem JC {a b n:Int} {U:St} {K':AV->St->Prop} {Kp:AV->St->Prop} (h:K' (.bool (decide (a <= n/\n <= b))) U):ae K 122 [.int .i64 a,.int .i64 b,.int .i64 n] U (ag K' Kp):=(qh a b n).go h
theorem qu {l:List Nd} {p:Int} (h:gx l ≠ 0):kz l p=gx l:=by unfold kz; rw [if_pos h]
theorem G9 {l:List Nd} {p:Int} (h:gx l=0) (hp:¬ (0 <= p/\p <= (l.length:Int) - 1)):kz l p=3:=by unfold kz; rw [if_neg (by simp [h]),if_pos (by omega)]
theorem Ak {l:List Nd} {p:Int} (h:gx l=0) (hp:0 <= p/\p <= (l.length:Int) - 1):kz l p=0:=by unfold kz; rw [if_neg (by simp [h]),if_neg (by omega)]
def VI (R:cR->St->Prop) (z:AV):cR->St->Prop:=fun r U=>∃ x e,r=.ret (.aH [x,.int .i64 e])/\(e ≠ 0->R (.ret (.aH [z,.int .i64 e])) U)/\(e=0->R (.ret (.aH [x,.int .i64 0])) U)
section
variable {U:St} {R:cR->St->Prop} {v:AV} {l:List Nd} {p:Int} {g:FuncId} {fs cs:List AV}
theorem SW (hg:eX K.P g=true) {a:List AV} {K':AV->St->Prop} {Kp:AV->St->Prop}:(iN K.P (.func (.func g) fs cs) a).wp K U K' Kp=ae K g (fs++a++cs) U (ag K' Kp):=by
 simp only [iN,hg,if_true,lF]
theorem XU {z:AV} {ad:St} {a:List AV} (h:ae K g a ad (VI R z)) :
 ae K g a ad (ag (fun ej U=>(aT ej 0).wp K U (fun v30 U=>(aT ej 1).wp K U (fun v31 U=>(ax .neq (BT.mk false false false none false) true v31 (AV.int .i64 0)).wp K U (fun fC U =>
  aw fC (ak R (AV.aH [z,v31]) U) (ak R (AV.aH [v30,(AV.int .i64 0)]) U)) (aa R)) (aa R)) (aa R)) (aa R)):=by
 refine h.mono fun r τ hr=>?_
 obtain ⟨x,e,rfl,h1,h2⟩:=hr
 simp only [bB,bu,List.drop,bA,dp,al]
 by_cases he:e=0
 . simp only [he,du,c8]
   exact dC (ak.mk (h2 he))
 . simp only [he,eB,eQ]
   exact dP (ak.mk (h1 he))
end
end Go.Rip
namespace Go.Rip
open Go.Proofs Go.RowKit
section
variable {v:AV} {l:List Nd}
theorem Tl {U:St} {R:cR->St->Prop} {c:lg} (h0:l ≠ []) (hl:l.length <= 100000) (h:∀ ad b,cW U ad->U.live b=none->ad.box b=some (bK l)->R (.ret (.ms b 0 l.length 6 43)) ad):ae K 89 [.vec l.length c (bK l)] U R:=by
 refine Ve ?_
 unfold Xf
 rw [show ax .eql (BT.mk false false false none true) true (.vec l.length c (bK l)) .ah=.val (.bool false) from rfl,al]
 refine dC ?_
 rw [vy]
 refine ⟨by omega,?_⟩
 rw [AS]
 refine ⟨rfl,fun b hb=>?_⟩
 have Fc:(U.new b (.box (bN 0 [AV.int .u8 0,AV.str [],AV.int .i64 0,AV.int .i64 0,AV.int .i64 0,AV.int .i64 0]))).box b=some []:=aG
 refine Jz Fc rfl ⟨jU l ▸ by omega,by simp,by omega⟩ fun b' ff=>?_
 rw [cU]
 have e1:=(bg hb (x:=.box (bN 0 [AV.int .u8 0,AV.str [],AV.int .i64 0,AV.int .i64 0,AV.int .i64 0,AV.int .i64 0]))).del (b:=b) hb.1
 exact ak.mk (h _ b' (e1.new ff) (e1.fresh ff.1) (by rw [aG]; rfl))
end
end Go.Rip
namespace Go.Rip
open Go.Proofs Go.RowKit
theorem Grow.jb {r:Nat} {U ad:St} {v:AV} {e sz n:Nat} {l L L':List AV} (h:Grow U v e sz n l) (hr:U.box r=some L) (A:gr r L' U ad):Grow ad v e sz n l:=by
 rcases h with h | ⟨τ,r1,r2,r3⟩
 . exact .inl h
 . exact .inr ⟨τ,r1,A.ex.tok (eV hr r2).symm r2,r3⟩
theorem Grow.other {U ad:St} {v w:AV} {e sz n e2 sz2 n2:Nat} {l l2:List AV} (h:Grow U v e sz n l) (cn:e ≠ e2) (k:Grow U w e2 sz2 n2 l2) (e1:∀ b x,(∀ n l,w ≠ .vec n (.own b) l)->U.live b=some x->ad.live b=some x):Grow ad v e sz n l:=by
 rcases h with h | ⟨τ,r1,r2,r3⟩
 . exact .inl h
 . refine .inr ⟨τ,r1,?_,r3⟩
   cases el:U.live τ with
   | none=>exact absurd el (SM r2)
   | some x =>
     have:=e1 τ x (fun n' l' hv=>by
      rcases k with ⟨_,_,k⟩ | ⟨uO,k,k2,_⟩
      . rw [k] at hv; cases hv
      . rw [k] at hv; cases hv
        rw [r2] at k2; cases k2; exact cn rfl) el
     rw [kW (this.trans el.symm)]; exact r2
end Go.Rip
