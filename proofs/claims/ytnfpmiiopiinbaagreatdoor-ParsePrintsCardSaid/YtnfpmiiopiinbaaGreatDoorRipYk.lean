/- Lemmas for the proof: no conditions. -/
import Derived.Test.YtnfpmiiopiinbaaGreatDoorRipZz
import Derived.Test.YtnfpmiiopiinbaaGreatDoorRipYi
import Derived.Test.YtnfpmiiopiinbaaGreatDoorRipS
set_option linter.unusedVariables false
set_option linter.unusedSimpArgs false
set_option linter.loopingSimpArgs false
namespace Go.Rip
open Go.Proofs Go.RowKit
def jY:List Tx->aY
 | []=>[]
 | [a]=>a.2
 | a::b::l=>a.2++32::jY (b::l)
theorem HG {s:aY}:∀ (l:List Tx) (acc:List Tk) (p f:Nat),(∀ x ∈ l,l9 x)->s.drop p=jY l->s.length - p <= f->acc.length+l.length <= 900->∃ ts,ts.map tx=l/\fS f s p acc=.ok (acc++ts)
 | [],acc,p,f,hl,hs,hf,ha=>by
   refine ⟨[],rfl,?_⟩
   cases f with
   | zero=>simp [fS]
   | succ f =>
     have hs:s.drop p=[]:=hs
     rw [fS,hs]; simp
 | [a],acc,p,f,hl,hs,hf,ha=>by
   have h:=hl a (by simp)
   have rT:s.drop p=a.2++[]:=by rw [hs,gw]; rfl
   have:=GK rT (by simp [h.1])
   have hp:0 < a.2.length:=List.length_pos_iff.2 h.1
   simp only [cZ,kJ,gu] at this ha
   obtain ⟨f,rfl⟩:∃ g,f=g+1:=⟨f - 1,by omega⟩
   rw [HH h rT Wd,if_neg (by omega)]
   have hd:=GJ rT
   obtain ⟨ts,e1,e2⟩:=HG [] (acc++[⟨a.1,a.2,p⟩]) (p+a.2.length) f (by simp) hd (by omega) (by simp; omega)
   refine ⟨⟨a.1,a.2,p⟩::ts,by rw [dV,e1]; rfl,?_⟩
   rw [e2,kI]; rfl
 | a::b::l,acc,p,f,hl,hs,hf,ha=>by
   have h:=hl a (by simp)
   have rT:s.drop p=a.2++32::jY (b::l):=hs
   have:=GK rT (by simp [h.1])
   have hp:0 < a.2.length:=List.length_pos_iff.2 h.1
   simp only [cZ,gu] at this ha
   obtain ⟨f,rfl⟩:∃ g,f=g+1:=⟨f - 1,by omega⟩
   obtain ⟨f,rfl⟩:∃ g,f=g+1:=⟨f - 1,by omega⟩
   have hd:=GJ rT
   rw [HH h rT (MQ (.inl rfl)),if_neg (by omega),Oo hd (.inl rfl)]
   obtain ⟨ts,e1,e2⟩:=HG (b::l) (acc++[⟨a.1,a.2,p⟩]) (p+a.2.length+1) f (fun x hx=>hl x (by simp only [cF] at hx ⊢; exact .inr hx)) (by rw [<- List.drop_drop,hd]; rfl) (by omega) (by simp; omega)
   refine ⟨⟨a.1,a.2,p⟩::ts,by rw [dV,e1]; rfl,?_⟩
   rw [e2,kI]; rfl
theorem RM:∀ (l:List Tx),(∀ x ∈ l,l9 x)->∀ c ∈ jY l,iI c=true
 | [],_,c,h=>by simp [jY] at h
 | [a],ho,c,h=>RT (ho a (by simp)) c h
 | a::b::l,ho,c,h=>by
   rw [jY,fN,cF] at h
   rcases h with h | rfl | h
   . exact RT (ho a (by simp)) c h
   . decide
   . exact RM (b::l) (fun x hx=>ho x (by simp only [cF] at hx ⊢; exact .inr hx)) c h
theorem Il:∀ (l:List Tx),(∀ x ∈ l,x.2.length <= 20)->(jY l).length <= 21 * l.length
 | [],_=>by simp [jY]
 | [a],h=>by have:=h a (by simp); simp [jY]; omega
 | a::b::l,h=>by
   have:=h a (by simp)
   have:=Il (b::l) fun x hx=>h x (by simp only [cF] at hx ⊢; exact .inr hx)
   simp only [jY,cZ,gu] at *; omega
def AG (x:Tx):Prop:=l9 x/\x.2.length <= 20
theorem gP:∀ w ∈ iU++ef,AG (aP w):=by
 have:∀ w ∈ iU++ef,w.length <= 20:=by decide
 exact fun w hw=>⟨V9 w hw,this w hw⟩
theorem so {x:aY} (h:fA x=true) (h0:x ≠ []):AG (dM x):=⟨Vf h h0,by have:=ij h; show x.length <= 20; omega⟩
theorem mF:∀ (f n:Nat),(jg f n).length <= f
 | 0,n=>by simp [jg]
 | f+1,n=>by
   unfold jg
   have:=mF f (n / 10)
   split <;> simp <;> omega
theorem BB {n:Int} (h:eg n=true):AG (iC n):=⟨LY h,mF 20 _⟩
theorem WA {l:List Tx} (h:∀ x ∈ l,AG x) (hl:l.length <= 20):∃ L,L.map tx=l/\mO (jY l)=.ok L:=by
 have h1:∀ x ∈ l,l9 x:=fun x hx=>(h x hx).1
 have hlen:=Il l fun x hx=>(h x hx).2
 have hc:mI (jY l)=(0,0):=by
  unfold mI
  rw [if_neg (by omega)]
  have:(jY l).findIdx? (fun c=>!iI c)=none:=by
   rw [List.findIdx?_eq_none_iff]
   intro c hc
   simp [RM l h1 c hc]
  rw [this]
 obtain ⟨ts,e1,e2⟩:=HG (s:=jY l) l [] 0 (jY l).length h1 rfl (by omega) (by simp; omega)
 refine ⟨ts,e1,?_⟩
 unfold mO
 rw [hc]; simpa using e2
theorem acW {bt:BT} {l:Bool} {a b:Int} {U:St} {K' Kp:AV->St->Prop}:(ai .quo bt l (.int .i64 a) (.int .i64 b)).wp K U K' Kp=(b ≠ 0/\uf (a.tdiv b)/\K' (.int .i64 (a.tdiv b)) U):=by rw [IU,gQ]; rfl
theorem acY {bt:BT} {l:Bool} {a b:Int} {U:St} {K' Kp:AV->St->Prop}:(ai .rem bt l (.int .i64 a) (.int .i64 b)).wp K U K' Kp=(b ≠ 0/\K' (.int .i64 (a.tmod b)) U):=by rw [IV]; rfl
theorem Ch {n:Nat} (h:n < 10):Pure K 240 [.int .i64 (n:Nat)] (.str [(48+n).toUInt8]):=by
 refine Pure.of rfl rfl (fun U=>rfl) fun R hR=>?_
 refine Fx ?_
 unfold Ii
 rw [a7,al,decide_eq_true (by omega)]
 refine ca ?_
 rw [cr]
 refine ⟨aW (by omega) (by omega),?_⟩
 simp only [kf,eG,wp_cond,al,dL,show ((n:Int)+1).toNat=n+1 by omega,show (tY).length=10 from rfl]
 refine ⟨by omega,aj.mk ?_⟩
 have key:∀ m:Fin 10,(tY.take (m.val+1)).drop m.val=[(48+m.val).toUInt8]:=by decide
 have:=key ⟨n,h⟩
 simp only at this
 rw [this]
 exact hR _
theorem yc:∀ (f n:Nat),n < 10 ^ (f+1)->n <= 1000000->f <= 100->Pure K 240 [.int .i64 (n:Nat)] (.str (jg (f+1) n))
 | f,n,hn,hm,hf=>by
   unfold jg
   by_cases h9:n < 10
   . rw [if_pos h9]; exact Ch h9
   rw [if_neg h9]
   obtain ⟨f,rfl⟩:∃ g,f=g+1:=⟨f - 1,by
    cases f with
    | zero=>simp at hn; omega
    | succ f=>rfl⟩
   have ih:=yc f (n / 10) (by rw [Nat.pow_succ] at hn; omega) (by omega) (by omega)
   have dg:=Ch (n:=n % 10) (Nat.mod_lt _ (by decide))
   have hlen:=mF (f+1) (n / 10)
   refine Pure.of rfl rfl (fun U=>rfl) fun R hR=>?_
   refine Fx ?_
   unfold Ii
   rw [a7,al,decide_eq_false (by omega)]
   refine bO ?_
   have e1:(n:Int).tdiv 10=((n / 10:Nat):Int):=by rw [Int.tdiv_eq_ediv_of_nonneg (by omega)]; omega
   have e2:(n:Int).tmod 10=((n % 10:Nat):Int):=by rw [Int.tmod_eq_emod_of_nonneg (by omega)]; omega
   rw [acW,e1]
   refine ⟨by decide,aW (by omega) (by omega),ih.go ?_⟩
   rw [acY,e2]
   refine ⟨by decide,dg.go ?_⟩
   rw [jS]
   refine ⟨by simp; omega,aj.mk (hR _)⟩
theorem ko {n:Int} (h:eg n=true):Pure K 240 [.int .i64 n] (.str (j6 n)):=by
 have hn:=of_decide_eq_true h
 have hp:(1000000:Nat) < 10 ^ 20:=by decide
 have:=yc 19 n.toNat (by omega) (by omega) (by omega)
 rwa [Int.toNat_of_nonneg hn.1] at this
structure RS (b:Nat) (v:AV) (aw:St) (aL:List Tx) (U:St):Prop where
 box:∃ vl L,L.map tx=aL/\U.box b=some [v,vl]/\fW (bJ ⟨.e,0⟩) U vl 51 3 L.length (eP L)
 fr:Fr b aw U
section
variable {b c n:Nat} {U aw aQ af:St} {v:AV} {aL l rest xs:List Tx} {L:List Nd} {t:Tre}
theorem RS.mono (h:RS b v aw aL U) (e:dD U af):RS b v aw aL af:=by
 obtain ⟨⟨vl,L,hL,h1,h2⟩,h3⟩:=h
 exact ⟨⟨vl,L,hL,e.bo h1,h2.mono e⟩,h3.trans (.tM e)⟩
theorem RS.wi (h:RS b v aw aL U):RS b v U aL U:=⟨h.box,Fr.refl _ _⟩
theorem RS.app (h:RS b v aw aL U) (k:RS b v U l af):RS b v aw l af:=⟨k.box,h.fr.trans k.fr⟩
theorem RS.ld (h:RS b v aw aL U):∃ vl,U.box b=some [v,vl]:=by
 obtain ⟨⟨vl,_,_,h1,_⟩,_⟩:=h
 exact ⟨vl,h1⟩
theorem TV {l:List Tk}:pL U (tW l)=some (l.length,eP l):=by
 unfold tW
 split
 . rename_i h; subst h; rfl
 . rfl
theorem T9 (l:List Tk):(eP l).length=l.length * 3:=by
 induction l with
 | nil=>rfl
 | cons x l ih =>
   have:(eP (x::l)).length=3+(eP l).length:=by simp [eP,lB]; omega
   rw [this,ih,gu]; omega
theorem W5 {s:aY} {R:cO->St->Prop} (hs:s=jY xs) (hx:∀ x ∈ xs,AG x) (h0:xs ≠ []) (hl:xs.length <= 20) (h:RS b v aw aL U) (hb:(aL++xs).length <= NT) (hk:∀ af,RS b v aw (aL++xs) af->R (.ret (.aG [])) af):ag K 193 [.box b 0,.str s] U R:=by
 refine QB ?_
 unfold QA
 obtain ⟨L2,e1,e2⟩:=WA hx hl
 have hlen:=Il xs fun x ji=>(hx x ji).2
 have ht:=H5 s (by rw [hs]; omega)
 rw [hs,e2] at ht
 rw [hs]
 refine ht.go ?_
 simp only [r9,bH,List.drop,bN]
 obtain ⟨⟨vl,L1,e3,h1,h2⟩,h3⟩:=h
 simp only [eo,al]
 refine fe (dj h1 rfl ?_)
 have qi:L2.length=xs.length:=by rw [<- e1]; simp
 have Cy:L1.length=aL.length:=by rw [<- e3]; simp
 have pE:0 < xs.length:=List.length_pos_iff.2 h0
 unfold NT at hb
 rw [cZ] at hb
 refine wx h2 TV (T9 L2) (by omega) (by omega) fun bg w g k=>?_
 have UG:=(lj h2.g k).1 h1
 have js:∀ {c z},U.live c=some z->(∀ t,z=.tok t->t.e ≠ 51)->∀ n l,vl ≠ .vec n (.own c) l:=fun hz ht n l hv=>by
  rcases h2.g with ⟨_,_,h3⟩ | ⟨τ,r1,r2,_⟩
  . rw [h3] at hv; cases hv
  . rw [r1] at hv; cases hv
    unfold St.tok at r2
    rw [hz] at r2
    split at r2
    . rename_i t e; cases e; cases r2; exact ht _ rfl rfl
    . cases r2
 refine fe ?_
 have hl:w.eF=true/\aC w=[w]:=by
  rcases g.g with ⟨h0,_,_⟩ | ⟨τ,r1,_,_⟩
  . omega
  . rw [r1]; exact ⟨rfl,rfl⟩
 rw [dP UG]
 refine ⟨⟨hl.1,by rw [hl.2]; rfl,by simp⟩,aj.mk (hk _ ⟨⟨w,L1++L2,by rw [List.map_append,e3,e1],by rw [bD,hl.2]; rfl,?_⟩,?_⟩)⟩
 . rw [cZ,rB]
   refine ⟨?_,g.z,g.t,sR _⟩
   rcases g.g with g' | ⟨τ,r1,r2,r3⟩
   . exact .inl g'
   . exact .inr ⟨τ,r1,by rw [il (gg UG r2).symm]; exact r2,r3⟩
 . refine h3.trans fun c z hc hz ht=>?_
   rw [dy,if_neg hc]; exact k c z (js hz ht) hz
theorem hX {s:aY} {K':AV->St->Prop} {Kp:AV->St->Prop} (xs:List Tx) (hs:s=jY xs) (hx:∀ x ∈ xs,AG x) (h0:xs ≠ []) (hl:xs.length <= 20) (h:RS b v aw aL U) (hb:(aL++(xs++rest)).length <= NT)
 (hk:∀ af,RS b v aw (aL++xs) af->((aL++xs)++rest).length <= NT->K' (.aG []) af):ag K 193 [.box b 0,.str s] U (aq K' Kp) :=
 W5 hs hx h0 hl h (by simp at hb ⊢; omega) fun af h'=>hk af h' (by simpa using hb)
theorem jD {w:aY} {K':AV->St->Prop} {Kp:AV->St->Prop} (hw:w ∈ iU++ef) (h:RS b v aw aL U) (hb:(aL++(aP w::rest)).length <= NT)
 (hk:∀ af,RS b v aw (aL++[aP w]) af->((aL++[aP w])++rest).length <= NT->K' (.aG []) af):ag K 193 [.box b 0,.str w] U (aq K' Kp) :=
 hX [aP w] rfl (fun x hx=>by rw [kH] at hx; subst hx; exact gP w hw) (by simp) (by simp) h hb hk
def yx (v:AV) (n:Nat) (t:Tre):Prop:=∀ (b:Nat) (aw U:St) (aL:List Tx) (R:cO->St->Prop),RS b v aw aL U->(aL++t.pr).length <= NT->(∀ af,RS b v aw (aL++t.pr) af->R (.ret (.aG [])) af)->ag K 128 [.box b 0,.int .i64 (n:Nat)] U R
def JP (v:AV) (n:Nat) (t:Tre):Prop:=∀ (b:Nat) (aw U:St) (aL:List Tx) (R:cO->St->Prop),RS b v aw aL U->(aL++t.pr).length <= NT->(∀ af,RS b v aw (aL++t.pr) af->R (.ret (.aG [])) af)->ag K 194 [.box b 0,.int .i64 (n:Nat)] U R
theorem KO {K':AV->St->Prop} {Kp:AV->St->Prop} (g:yx v n t) (h:RS b v aw aL U) (hb:(aL++(t.pr++rest)).length <= NT) (hk:∀ af,RS b v aw (aL++t.pr) af->((aL++t.pr)++rest).length <= NT->K' (.aG []) af):ag K 128 [.box b 0,.int .i64 (n:Nat)] U (aq K' Kp) :=
 g _ _ _ _ _ h (by simp at hb ⊢; omega) fun af h'=>hk af h' (by simpa using hb)
theorem Xa {K':AV->St->Prop} {Kp:AV->St->Prop} (g:JP v n t) (h:RS b v aw aL U) (hb:(aL++(t.pr++rest)).length <= NT) (hk:∀ af,RS b v aw (aL++t.pr) af->((aL++t.pr)++rest).length <= NT->K' (.aG []) af):ag K 194 [.box b 0,.int .i64 (n:Nat)] U (aq K' Kp) :=
 g _ _ _ _ _ h (by simp at hb ⊢; omega) fun af h'=>hk af h' (by simpa using hb)
theorem adK {x:Nd} {K' Kp:AV->St->Prop} (h:kn U v L) (hx:L[n]?=some x) (hk:K' (.agg (cM x)) U) :
 (au (some (43,6)) none v (.int .i64 (n:Nat))).wp K U (fun p U=>(ah (some (true,6)) p U).wp K U K' Kp) Kp:=by
 have aM:=(de.1 hx).1
 obtain ⟨r,hr⟩:=wc hx
 rcases h with (⟨rfl,rfl⟩ | ⟨cp,rfl⟩) | ⟨b,rfl,hb⟩
 . simp at aM
 . rw [ua,dL,hr]
   refine ⟨by omega,?_⟩
   rw [rh]
   exact ⟨by simp [cM],by simpa [cM] using hk⟩
 . rw [AE,dL,dI]
   refine ⟨⟨by omega,by omega,rfl⟩,?_⟩
   rw [pA hb,hr]
   exact ⟨by simp [cM],by simpa [cM] using hk⟩
theorem eR {K':AV->AV->St->Prop} {Kp:AV->St->Prop} {s:Tre} (hv:cB v L.length (c8 L)) (hL:L.length <= 1000) (hs:cQ L n s) (h:RS b v aw aL U)
 (hk:∀ b4 aQ vk x,L[n]?=some x->b4 ≠ b->aQ.box b4=some (rN s x.size)->cB vk (aX (n+1) s.kids).length (cX (aX (n+1) s.kids))->RS b v aQ aL aQ->(∀ l af,RS b v aQ l af->RS b v aw l af)->K' (.box b4 0) vk aQ) :
 (bR (.box b 0)).wp K U (fun v8 U=>(ae (some 0) v8).wp K U (fun v9 U=>(ah (some (false,1)) v9 U).wp K U (fun v10 U=>(au (some (43,6)) none v10 (.int .i64 (n:Nat))).wp K U (fun v12 U=>(ah (some (true,6)) v12 U).wp K U (fun bP U =>
   (ay.db [AV.int .u8 0,AV.str [],AV.int .i64 0,AV.int .i64 0,AV.int .i64 0,AV.int .i64 0]).wp K U (fun v4 U=>(aU (some (true,6)) v4 bP U).wp K U (fun _ U =>
   (bR (.box b 0)).wp K U (fun bj U=>(ae (some 0) bj).wp K U (fun cA U=>(ah (some (false,1)) cA U).wp K U (fun bW U =>
   ag K 67 [bW,.int .i64 (n:Nat)] U (aq (fun bS U=>K' v4 bS U) Kp)) Kp) Kp) Kp) Kp) Kp) Kp) Kp) Kp) Kp) Kp:=by
 obtain ⟨vl,fP⟩:=h.ld
 obtain ⟨x,hx,f1,f2,f3,f4,f5,f6⟩:=hs.lR
 simp only [eo,al]
 refine fe (dj fP rfl (adK (hv.zj (U:=U)) hx ?_))
 rw [df]
 intro b4 iS
 have m4:(U.new b4 (.box [AV.int .u8 0,AV.str [],AV.int .i64 0,AV.int .i64 0,AV.int .i64 0,AV.int .i64 0])).box b4=some _:=aS
 have n4:b4 ≠ b:=(iS.cH fP).symm
 have e1:dD U ((U.new b4 (.box [AV.int .u8 0,AV.str [],AV.int .i64 0,AV.int .i64 0,AV.int .i64 0,AV.int .i64 0])).set b4 (.box (cM x))):=(bE iS).set iS.1
 rw [dP m4]
 refine ⟨⟨rfl,rfl,by simp⟩,?_⟩
 have es:aK [AV.int .u8 0,AV.str [],AV.int .i64 0,AV.int .i64 0,AV.int .i64 0,AV.int .i64 0] 0 (aC (.agg (cM x)))=cM x:=rfl
 rw [es]
 have m4:((U.new b4 (.box [AV.int .u8 0,AV.str [],AV.int .i64 0,AV.int .i64 0,AV.int .i64 0,AV.int .i64 0])).set b4 (.box (cM x))).box b4=some (cM x):=bD
 generalize (U.new b4 _).set b4 _=bg at *
 have h2:=h.mono e1
 have SW:=e1.bo fP
 refine fe (dj SW rfl ?_)
 refine wa (hv.zj (U:=bg)) hs (by omega) fun cz vk g=>?_
 rw [bL]
 have h3:=h2.mono g.ex
 have hc:cM x=rN s x.size:=by unfold cM rN; rw [f1,f3,f4,f5,f6]
 refine hk b4 cz vk x hx n4 (by rw [<- hc]; exact g.ex.bo m4) (by have:=g.sl; rwa [<- fx (n+1) s.kids] at this) h3.wi fun l af h'=>h3.app h'
theorem dH {b4 o:Nat} {C:List AV} {c:AV} {tk:List Tx} {K':AV->St->Prop} {Kp:AV->St->Prop} (n4:b4 ≠ b) (m4:aQ.box b4=some C) (h':RS b v aQ tk af) (hc:C[o]?=some c) (k:K' c af) :
 (ae (some o) (.box b4 0)).wp K af (fun v8 U=>(ah (some (false,1)) v8 U).wp K U K' Kp) Kp:=by
 have aM:=(de.1 hc).1
 have hd:C.drop (0+o)=c::C.drop (o+1):=by
  rw [dI,fU aM,(de.1 hc).2]
 exact fe (dj (h'.fr.bo n4 m4) hd k)
theorem GU {b4 o:Nat} {C:List AV} {c:AV} {tk:List Tx} {k:AV->AV->Prop} (n4:b4 ≠ b) (m4:aQ.box b4=some C) (h':RS b v aQ tk af) (hc:C[o]?=some c) (hk:k (.box b4 (0+o)) c) :
 aF K (ae (some o) (.box b4 0)) (fun v8=>aF K (ah (some (false,1)) v8 af) (k v8)):=by
 have aM:=(de.1 hc).1
 have hd:C.drop (0+o)=c::C.drop (o+1):=by
  rw [dI,fU aM,(de.1 hc).2]
 exact hU (dz (h'.fr.bo n4 m4) hd hk)
theorem ve (k:Int):Pure K 196 [.int .u8 k] (.int .i64 (dk k:Nat)):=by
 refine Pure.of rfl rfl (fun U=>rfl) fun R hR=>?_
 refine QF ?_
 unfold QE
 have fin:∀ (m:Nat) (U:St),dk k=m->aj R (.int .i64 (m:Nat)) U:=fun m U h=>by subst h; exact aj.mk (hR _)
 have one:∀ (i:Int) (m:Nat) (U:St) (B:AV->St->Prop),dk i=m->(k ≠ i->B (.bool false) U)->(ai .eql (BT.mk false false false none false) true (.int .u8 k) (AV.int .u8 i)).wp K U (fun v U=>ao v (aj R (.int .i64 (m:Nat)) U) (B v U)) (aa R):=by
  intro i m U B h1 h2
  by_cases h:k=i
  . exact fi h (fin m U (by rw [h]; exact h1))
  . exact bm h (h2 h)
 have FG:∀ (i:Int) (m:Nat) (U:St) (j:AV->AV->St->Prop) (B:AV->St->Prop),dk i=m->(k=i->j (.int .u8 k) (.bool true) U)->(k ≠ i->B (.bool false) U)->(ai .eql (BT.mk false false false none false) true (.int .u8 k) (AV.int .u8 i)).wp K U (fun v U=>ao v (j (.int .u8 k) v U) (B v U)) (aa R):=by
  intro i m U j B h1 h2 h3
  by_cases h:k=i
  . exact fi h (h2 h)
  . exact bm h (h3 h)
 have lst:∀ (i:Int) (U:St) (j:AV->AV->St->Prop),(k=i->j (.int .u8 k) (.bool true) U)->(k ≠ i->j (.int .u8 k) (.bool false) U)->(ai .eql (BT.mk false false false none false) true (.int .u8 k) (AV.int .u8 i)).wp K U (fun v U=>j (.int .u8 k) v U) (aa R):=by
  intro i U j h2 h3
  rw [aT,al]
  by_cases h:k=i
  . rw [decide_eq_true h]; exact h2 h
  . rw [decide_eq_false h]; exact h3 h
 refine one 9 0 _ _ rfl fun n9=>?_
 intro j hj
 have J:∀ i,dk i=1->k=i->∀ U,j (.int .u8 k) (.bool true) U:=fun i h1 h2 U=>hj _ _ _ (ca (fin 1 U (by rw [h2]; exact h1)))
 refine FG 10 1 _ j _ rfl (fun h=>J _ rfl h _) fun n10=>FG 11 1 _ j _ rfl (fun h=>J _ rfl h _) fun n11=>FG 12 1 _ j _ rfl (fun h=>J _ rfl h _) fun n12=>FG 13 1 _ j _ rfl (fun h=>J _ rfl h _) fun n13=>FG 14 1 _ j _ rfl (fun h=>J _ rfl h _) fun n14=>FG 15 1 _ j _ rfl (fun h=>J _ rfl h _) fun n15=>lst 16 _ j (fun h=>J _ rfl h _) fun n16=>?_
 refine hj _ _ _ (bO ?_)
 clear J hj
 refine one 17 2 _ _ rfl fun n17=>one 18 3 _ _ rfl fun n18=>one 19 4 _ _ rfl fun n19=>?_
 intro j hj
 have J:∀ i,dk i=5->k=i->∀ U,j (.int .u8 k) (.bool true) U:=fun i h1 h2 U=>hj _ _ _ (ca (fin 5 U (by rw [h2]; exact h1)))
 refine FG 20 5 _ j _ rfl (fun h=>J _ rfl h _) fun n20=>lst 21 _ j (fun h=>J _ rfl h _) fun n21=>hj _ _ _ (bO ?_)
 clear J hj
 intro j hj
 have J:∀ i,dk i=6->k=i->∀ U,j (.int .u8 k) (.bool true) U:=fun i h1 h2 U=>hj _ _ _ (ca (fin 6 U (by rw [h2]; exact h1)))
 refine FG 22 6 _ j _ rfl (fun h=>J _ rfl h _) fun n22=>lst 23 _ j (fun h=>J _ rfl h _) fun HM=>hj _ _ _ (bO ?_)
 refine one 24 7 _ _ rfl fun CR=>one 25 8 _ _ rfl fun n25=>fin 9 _ ?_
 unfold dk
 rw [if_neg (by omega),if_neg (by omega),if_neg (by omega),if_neg (by omega),if_neg (by omega),if_neg (by omega),if_neg (by omega),if_neg (by omega),if_neg (by omega)]
structure eS (v:AV) (L:List Nd) (pl:List Nat) (ks:List Tre):Prop where
 len:pl.length=ks.length
 nd:∀ (i n:Nat) (t:Tre),pl[i]?=some n->ks[i]?=some t->yx v n t/\(ey t.kind=true->JP v n t)/\∃ x,L[n]?=some x/\x.kind=t.kind/\x.text=t.text
theorem aaG {least:Nat} {x:Nd} {R:cO->St->Prop} (hv:cB v L.length (c8 L)) (hx:L[n]?=some x) (nq:x.kind=t.kind) (g:yx v n t) (h:RS b v aw aL U) (hb:(aL++cY t.kind least t.pr).length <= NT)
 (hk:∀ af,RS b v aw (aL++cY t.kind least t.pr) af->R (.ret (.aG [])) af):ag K 195 [.box b 0,.int .i64 (n:Nat),.int .i64 (least:Nat)] U R:=by
 refine QD ?_
 unfold QC
 obtain ⟨vl,fP⟩:=h.ld
 simp only [eo,al]
 refine fe (dj fP rfl (sw (hv.zj (U:=U)) hx (show (cM x)[0]?=some (.int .u8 x.kind) from rfl) ((ve x.kind).go ?_)))
 rw [nq,a7,al]
 refine cu (fun aM=>?_) fun gq=>?_
 . have e:cY t.kind least t.pr=aP ek::(t.pr++[aP eV]):=by unfold cY; rw [if_neg (by omega)]; rfl
   rw [e] at hb hk
   refine jD (w:=ek) (by decide) h hb fun aQ h1 b1=>KO g h1 b1 fun bg h2 b2=>jD (w:=eV) (rest:=[]) (by decide) h2 (by simpa using b2) fun cz h3 _=>aj.mk (hk _ (by simpa using h3))
 . have e:cY t.kind least t.pr=t.pr:=by unfold cY; rw [if_pos (by omega)]
   rw [e] at hb hk
   exact KO (rest:=[]) g h (by simpa using hb) fun af h' _=>aj.mk (hk af h')
theorem ac8 {least:Nat} {x:Nd} {K':AV->St->Prop} {Kp:AV->St->Prop} (hv:cB v L.length (c8 L)) (hx:L[n]?=some x) (nq:x.kind=t.kind) (g:yx v n t) (h:RS b v aw aL U) (hb:(aL++(cY t.kind least t.pr++rest)).length <= NT)
 (hk:∀ af,RS b v aw (aL++cY t.kind least t.pr) af->((aL++cY t.kind least t.pr)++rest).length <= NT->K' (.aG []) af):ag K 195 [.box b 0,.int .i64 (n:Nat),.int .i64 (least:Nat)] U (aq K' Kp) :=
 aaG hv hx nq g h (by simp at hb ⊢; omega) fun af h'=>hk af h' (by simpa using hb)
theorem kL {least i:Nat} {pl:List Nat} {ts:List Tre} {vk:AV} {e:Nat} {K':AV->St->Prop} {Kp:AV->St->Prop} (hv:cB v L.length (c8 L)) (bM:cB vk pl.length (cX pl)) (hp:eS v L pl ts) (ht:ts[i]?=some t) (h:RS b v aw aL U) (hb:(aL++(cY t.kind least t.pr++rest)).length <= NT)
 (hk:∀ af,RS b v aw (aL++cY t.kind least t.pr) af->((aL++cY t.kind least t.pr)++rest).length <= NT->K' (.aG []) af) :
 (au (some (e,1)) none vk (.int .i64 (i:Nat))).wp K U (fun dq U=>(ah (some (false,1)) dq U).wp K U (fun v28 U=>ag K 195 [.box b 0,v28,.int .i64 (least:Nat)] U (aq K' Kp)) Kp) Kp:=by
 have hi:=(de.1 ht).1
 have hl:=hp.len
 obtain ⟨q,hq⟩:∃ q,pl[i]?=some q:=⟨pl[i]'(by omega),by simp [show i < pl.length by omega]⟩
 obtain ⟨g,_,x,hx,nq,_⟩:=hp.nd i q t hq ht
 exact ja bM hq (ac8 hv hx nq g h hb hk)
theorem xM {i:Nat} {pl:List Nat} {ts:List Tre} {vk:AV} {e:Nat} {K':AV->St->Prop} {Kp:AV->St->Prop} (bM:cB vk pl.length (cX pl)) (hp:eS v L pl ts) (ht:ts[i]?=some t) (hty:ey t.kind=true) (h:RS b v aw aL U) (hb:(aL++(t.pr++rest)).length <= NT)
 (hk:∀ af,RS b v aw (aL++t.pr) af->((aL++t.pr)++rest).length <= NT->K' (.aG []) af) :
 (au (some (e,1)) none vk (.int .i64 (i:Nat))).wp K U (fun dq U=>(ah (some (false,1)) dq U).wp K U (fun v28 U=>ag K 194 [.box b 0,v28] U (aq K' Kp)) Kp) Kp:=by
 have hi:=(de.1 ht).1
 have hl:=hp.len
 obtain ⟨q,hq⟩:∃ q,pl[i]?=some q:=⟨pl[i]'(by omega),by simp [show i < pl.length by omega]⟩
 obtain ⟨_,g,_⟩:=hp.nd i q t hq ht
 exact ja bM hq (Xa (g hty) h hb hk)
theorem W2 {vk:AV} {ks:List Nat} {ts:List Tre} {R:cO->St->Prop} (bM:cB vk ks.length (cX ks)) (hp:eS v L ks ts) (hl:ks.length <= 100000) (h:RS b v aw aL U)
 (hb:(aL++dr dW (ts.map Tre.pr)).length <= NT) (hk:∀ af,RS b v aw (aL++dr dW (ts.map Tre.pr)) af->R (.ret (.aG [])) af):ag K 239 [.box b 0,vk] U R:=by
 have hlen:=hp.len
 refine Rz ?_
 unfold Ry
 refine ⟨fun m w0 w1 w4 af=>∃ i:Nat,m=ks.length - i/\i <= ks.length/\w0=.box b 0/\w1=vk/\w4=.int .i64 (i:Nat)/\RS b v aw (aL++dr dW ((ts.map Tre.pr).take i)) af,⟨_,0,rfl,by omega,rfl,rfl,rfl,by simpa [dr] using h⟩,?_⟩
 rintro m w0 w1 w4 aQ ⟨i,rfl,hi,rfl,rfl,rfl,h1⟩
 rw [bM.len,al,a7,al]
 refine cu (fun aM=>?_) fun gq=>?_
 . have aM:i < ks.length:=by omega
   obtain ⟨n,hn⟩:∃ n,ks[i]?=some n:=⟨ks[i],by simp [aM]⟩
   obtain ⟨t,ht⟩:∃ t,ts[i]?=some t:=⟨ts[i]'(by omega),by simp [show i < ts.length by omega]⟩
   obtain ⟨g,_⟩:=hp.nd i n t hn ht
   have nQ:(ts.map Tre.pr)[i]?=some t.pr:=by simp [ht]
   have jF:(ts.map Tre.pr).take (i+1)=(ts.map Tre.pr).take i++[t.pr]:=by rw [lM,nQ]; rfl
   have hle:=zO dW (ts.map Tre.pr) (i+1)
   have eT:=hb
   rw [cZ] at eT
   intro j hj
   have tail:∀ (tk:List Tx) (af:St),RS b v aw tk af->tk++t.pr=aL++dr dW ((ts.map Tre.pr).take (i+1))->j (.box b 0) w1 (.int .i64 (i:Nat)) af:=by
    intro tk af h' e
    refine hj _ _ _ _ (ja bM hn ?_)
    refine g _ _ _ _ _ h' (by rw [e,cZ]; omega) fun bg h2=>?_
    rw [bL,cr]
    exact ⟨aW (by omega) (by omega),ks.length - (i+1),by omega,i+1,rfl,by omega,rfl,rfl,by simp,by rw [<- e]; exact h2⟩
   rw [cx,al]
   refine cu (fun vO=>?_) fun UP=>?_
   . have cV:(ts.map Tre.pr).take i ≠ []:=fun e=>by
      have:=congrArg List.length e
      rw [List.length_take,List.length_map,kJ] at this; omega
     have oQ:=zN dW t.pr cV
     rw [jF] at hle tail
     rw [oQ] at hle tail
     refine jD (w:=dW) (rest:=t.pr) (by decide) h1 (by simp at hb hle ⊢; omega) fun bg h2 _=>?_
     exact tail _ bg h2 (by simp)
   . have sE:i=0:=by omega
     subst sE
     exact tail _ aQ h1 (by rw [jF]; simp [dr])
 . have hi:i=ks.length:=by omega
   subst hi
   rw [o4 (by simp; omega)] at h1
   exact aj.mk (hk _ h1)
theorem Ax {vk:AV} {pl:List Nat} {ts:List Tre} {K':AV->St->Prop} {Kp:AV->St->Prop} (bM:cB vk pl.length (cX pl)) (hp:eS v L pl ts) (hl:ts.length <= 1000) (h:RS b v aw aL U)
 (hb:(aL++(dr dW (ts.map Tre.pr)++rest)).length <= NT) (hk:∀ af,RS b v aw (aL++dr dW (ts.map Tre.pr)) af->((aL++dr dW (ts.map Tre.pr))++rest).length <= NT->K' (.aG []) af):ag K 239 [.box b 0,vk] U (aq K' Kp) :=
 W2 bM hp (by have:=hp.len; omega) h (by simp at hb ⊢; omega) fun af h'=>hk af h' (by simpa using hb)
theorem eS.app {pl:List Nat} {ks ks':List Tre} (h:eS v L pl (ks++ks')):eS v L (pl.take ks.length) ks/\eS v L (pl.drop ks.length) ks':=by
 have hl:=h.len
 rw [cZ] at hl
 refine ⟨⟨by rw [List.length_take]; omega,fun i n t h1 h2=>?_⟩,⟨by rw [List.length_drop]; omega,fun i n t h1 h2=>?_⟩⟩
 . have hi:=(de.1 h2).1
   rw [List.getElem?_take_of_lt hi] at h1
   exact h.nd i n t h1 (by rw [va hi]; exact h2)
 . rw [List.getElem?_drop] at h1
   exact h.nd (ks.length+i) n t h1 (by rw [List.getElem?_append_right (by omega)]; simpa using h2)
end
end Go.Rip
namespace Go.Rip
open Go.Proofs Go.RowKit
def nf (f:FuncId) (v:AV) (n:Nat) (t:Tre):Prop:=∀ (b:Nat) (aw U:St) (aL:List Tx) (R:cO->St->Prop),RS b v aw aL U->(aL++t.pr).length <= NT->(∀ af,RS b v aw (aL++t.pr) af->R (.ret (.aG [])) af)->ag K f [.box b 0,.int .i64 (n:Nat)] U R
theorem sn:∀ x ∈ ([]:List Tx),AG x:=fun _ h=>nomatch h
theorem sc {a:Tx} {l:List Tx} (h:AG a) (t:∀ x ∈ l,AG x):∀ x ∈ a::l,AG x:=fun x hx=>by
 rcases cF.1 hx with rfl | hx
 . exact h
 . exact t x hx
section
variable {b n:Nat} {U aw aQ af:St} {v:AV} {aL l rest:List Tx} {L:List Nd} {s t A B C:Tre} {x:aY} {nn m a:Int}
theorem KJ {b4:Nat} {D:List AV} {tk:List Tx} (n4:b4 ≠ b) (m4:aQ.box b4=some D) (h:RS b v aQ tk af):af.live b4=aQ.live b4:=by
 cases e:aQ.live b4 with
 | none=>simp [St.box,e] at m4
 | some x=>exact h.fr b4 x n4 e fun t ht=>by subst ht; simp [St.box,e] at m4
theorem C9 {w:aY} {lf rt:Nat} {K':AV->St->Prop} {Kp:AV->St->Prop} (hw:w ∈ iU++ef) (hv:cB v L.length (c8 L)) (hL:L.length <= 1000) (hs:cQ L n s) (h2:s.kids=[A,B]) (hp:eS v L (aX (n+1) s.kids) s.kids) (h:RS b v aw aL U)
 (hb:(aL++((cY A.kind lf A.pr++aP w::cY B.kind rt B.pr)++rest)).length <= NT)
 (hk:∀ af,RS b v aw (aL++(cY A.kind lf A.pr++aP w::cY B.kind rt B.pr)) af->((aL++(cY A.kind lf A.pr++aP w::cY B.kind rt B.pr))++rest).length <= NT->K' (.aG []) af) :
 ag K 241 [.box b 0,.int .i64 (n:Nat),.str w,.int .i64 (lf:Nat),.int .i64 (rt:Nat)] U (aq K' Kp):=by
 refine RB ?_
 unfold RA
 obtain ⟨vl,fP⟩:=h.ld
 simp only [eo,al]
 refine fe (dj fP rfl (wa (hv.zj (U:=U)) hs (by omega) fun aQ vk g=>?_))
 rw [bL]
 have h1:=h.mono g.ex
 have bM:cB vk (aX (n+1) s.kids).length (cX (aX (n+1) s.kids)):=by have:=g.sl; rwa [<- fx (n+1) s.kids] at this
 have e0:s.kids[0]?=some A:=by rw [h2]; rfl
 have e1:s.kids[1]?=some B:=by rw [h2]; rfl
 have hb:(aL++(cY A.kind lf A.pr++(aP w::(cY B.kind rt B.pr++rest)))).length <= NT:=by simpa using hb
 refine kL (i:=0) hv bM hp e0 h1 hb fun bg h2 b2=>jD hw h2 b2 fun cz h3 b3=>kL (i:=1) hv bM hp e1 h3 b3 fun dZ h4 b4=>aj.mk (hk _ (by simpa using h4) (by simpa using b4))
section
variable (hv:cB v L.length (c8 L)) (hL:L.length <= 1000)
include hv hL
theorem WV (hs:cQ L n (.mk 10 x nn m a [A,B,C])) (hp:eS v L (aX (n+1) [A,B,C]) [A,B,C]):nf 197 v n (.mk 10 x nn m a [A,B,C]):=by
 intro b aw U aL R h hb hk
 have e:(Tre.mk 10 x nn m a [A,B,C]).pr=aP x6::(cY A.kind 1 A.pr++(aP sb::(cY B.kind 1 B.pr++(aP ia::(cY C.kind 1 C.pr++[]))))):=by rw [Tre.c6]; simp [ck]
 rw [e] at hb
 refine ov ?_
 unfold rY
 refine eR hv hL hs h fun b4 aQ vk x hx n4 m4 bM h1 up=>dH n4 m4 h1 (show _=some (.int .u8 10) from rfl) ?_
 refine fi rfl ?_
 refine jD (by decide) h1 hb fun bg h2 b2=>kL (i:=0) (least:=1) hv bM hp rfl h2 b2 fun cz h3 b3=>jD (by decide) h3 b3 fun dZ h4 b4=>kL (i:=1) (least:=1) hv bM hp rfl h4 b4 fun eW h5 b5=>jD (by decide) h5 b5 fun oU h6 b6=>kL (i:=2) (least:=1) hv bM hp rfl h6 b6 fun jN h7 b7=>aj.mk (hk _ (up _ _ ?_))
 rw [e]; simpa using h7
theorem Ml (hs:cQ L n (.mk 11 x nn m a [A,B])) (hp:eS v L (aX (n+1) [A,B]) [A,B]):nf 197 v n (.mk 11 x nn m a [A,B]):=by
 intro b aw U aL R h hb hk
 have e:(Tre.mk 11 x nn m a [A,B]).pr=aP nH::((cY A.kind 1 A.pr++aP xZ::cY B.kind 1 B.pr)++[]):=by rw [Tre.c6]; simp [ck]
 rw [e] at hb
 refine ov ?_
 unfold rY
 refine eR hv hL hs h fun b4 aQ vk x hx n4 m4 bM h1 up=>dH n4 m4 h1 (show _=some (.int .u8 11) from rfl) ?_
 refine bm (by decide) (fi rfl ?_)
 refine jD (by decide) h1 hb fun bg h2 b2=>C9 (lf:=1) (rt:=1) (by decide) hv hL hs rfl hp h2 b2 fun cz h3 b3=>aj.mk (hk _ (up _ _ ?_))
 rw [e]; simpa using h3
theorem Jv (hs:cQ L n (.mk 15 x nn m a [A,B])) (hp:eS v L (aX (n+1) [A,B]) [A,B]):nf 197 v n (.mk 15 x nn m a [A,B]):=by
 intro b aw U aL R h hb hk
 have e:(Tre.mk 15 x nn m a [A,B]).pr=aP lP::((cY A.kind 1 A.pr++aP ia::cY B.kind 1 B.pr)++[]):=by rw [Tre.c6]; simp [ck]
 rw [e] at hb
 refine ov ?_
 unfold rY
 refine eR hv hL hs h fun b4 aQ vk x hx n4 m4 bM h1 up=>dH n4 m4 h1 (show _=some (.int .u8 15) from rfl) ?_
 refine bm (by decide) (bm (by decide) (bm (by decide) (bm (by decide) (bm (by decide) (fi rfl ?_)))))
 refine jD (by decide) h1 hb fun bg h2 b2=>C9 (lf:=1) (rt:=1) (by decide) hv hL hs rfl hp h2 b2 fun cz h3 b3=>aj.mk (hk _ (up _ _ ?_))
 rw [e]; simpa using h3
theorem Mj (hx1:fA x=true) (hx0:x ≠ []) (hs:cQ L n (.mk 13 x nn m a [A,B])) (hp:eS v L (aX (n+1) [A,B]) [A,B]):nf 197 v n (.mk 13 x nn m a [A,B]):=by
 intro b aw U aL R h hb hk
 have uZ:=ij hx1
 have e:(Tre.mk 13 x nn m a [A,B]).pr=[aP nF,dM x,aP kN]++((cY A.kind 1 A.pr++aP ia::cY B.kind 1 B.pr)++[]):=by rw [Tre.c6]; simp [ck]
 rw [e] at hb
 refine ov ?_
 unfold rY
 refine eR hv hL hs h fun b4 aQ vk y hy n4 m4 bM h1 up=>dH n4 m4 h1 (show _=some (.int .u8 13) from rfl) ?_
 refine bm (by decide) (bm (by decide) (bm (by decide) (fi rfl (dH n4 m4 h1 (show _=some (.str x) from rfl) ?_))))
 rw [jS]
 refine ⟨by simp [sZ]; omega,?_⟩
 rw [jS]
 refine ⟨by simp [sZ,oL]; omega,?_⟩
 refine hX [aP nF,dM x,aP kN] (by simp [jY,aP,dM,sZ,oL,nF,kN]) (sc (gP _ (by decide)) (sc (so hx1 hx0) (sc (gP _ (by decide)) sn))) (by simp) (by simp) h1 hb fun bg h2 b2=>?_
 refine C9 (lf:=1) (rt:=1) (by decide) hv hL hs rfl hp h2 b2 fun cz h3 b3=>aj.mk (hk _ (up _ _ ?_))
 rw [e]; simpa using h3
theorem Te (hx1:fA x=true) (hx0:x ≠ []) (hs:cQ L n (.mk 16 x nn m a [A])) (hp:eS v L (aX (n+1) [A]) [A]):nf 197 v n (.mk 16 x nn m a [A]):=by
 intro b aw U aL R h hb hk
 have uZ:=ij hx1
 have e:(Tre.mk 16 x nn m a [A]).pr=[dM x,aP cR]++(cY A.kind 1 A.pr++[]):=by rw [Tre.c6]; simp [ck]
 rw [e] at hb
 refine ov ?_
 unfold rY
 refine eR hv hL hs h fun b4 aQ vk y hy n4 m4 bM h1 up=>dH n4 m4 h1 (show _=some (.int .u8 16) from rfl) ?_
 refine bm (by decide) (bm (by decide) (bm (by decide) (bm (by decide) (bm (by decide) (bm (by decide) (fi rfl (dH n4 m4 h1 (show _=some (.str x) from rfl) ?_)))))))
 rw [jS]
 refine ⟨by simp [vq]; omega,?_⟩
 refine hX [dM x,aP cR] (by simp [jY,aP,dM,vq,cR]) (sc (so hx1 hx0) (sc (gP _ (by decide)) sn)) (by simp) (by simp) h1 hb fun bg h2 b2=>?_
 refine kL (i:=0) (least:=1) hv bM hp rfl h2 b2 fun cz h3 b3=>aj.mk (hk _ (up _ _ ?_))
 rw [e]; simpa using h3
theorem Td (hx1:fA x=true) (hx0:x ≠ []) (hn:eg nn=true) (hm:eg m=true) (hs:cQ L n (.mk 12 x nn m a [A])) (hp:eS v L (aX (n+1) [A]) [A]):nf 197 v n (.mk 12 x nn m a [A]):=by
 intro b aw U aL R h hb hk
 have uZ:=ij hx1
 have SQ:(j6 nn).length <= 20:=mF 20 _
 have afT:(j6 m).length <= 20:=mF 20 _
 have e:(Tre.mk 12 x nn m a [A]).pr=[aP rI,dM x,aP eD,iC nn,aP cR,iC m,aP kN]++(cY A.kind 1 A.pr++[]):=by rw [Tre.c6]; simp [ck]
 rw [e] at hb
 refine ov ?_
 unfold rY
 refine eR hv hL hs h fun b4 aQ vk y hy n4 m4 bM h1 up=>dH n4 m4 h1 (show _=some (.int .u8 12) from rfl) ?_
 refine bm (by decide) (bm (by decide) (fi rfl (GU n4 m4 h1 (show _=some (.str x) from rfl) ?_)))
 rw [py]
 refine ⟨by simp [oA]; omega,?_⟩
 rw [py]
 refine ⟨by simp [oA,lO]; omega,GU n4 m4 h1 (show _=some (.int .i64 nn) from rfl) (gV (ko hn) ?_)⟩
 rw [py]
 refine ⟨by simp [oA,lO]; omega,?_⟩
 rw [py]
 refine ⟨by simp [oA,lO,ga]; omega,GU n4 m4 h1 (show _=some (.int .i64 m) from rfl) (gV (ko hm) ?_)⟩
 rw [py]
 refine ⟨by simp [oA,lO,ga]; omega,?_⟩
 rw [py]
 refine ⟨by simp [oA,lO,ga,oL]; omega,?_⟩
 refine hX [aP rI,dM x,aP eD,iC nn,aP cR,iC m,aP kN] (by simp [jY,aP,dM,iC,oA,lO,ga,oL,rI,eD,cR,kN])
  (sc (gP _ (by decide)) (sc (so hx1 hx0) (sc (gP _ (by decide)) (sc (BB hn) (sc (gP _ (by decide)) (sc (BB hm) (sc (gP _ (by decide)) sn))))))) (by simp) (by simp) h1 hb fun bg h2 b2=>⟨fun c hc=>?_,?_⟩
 . simp only [dK,gw,fN,cF,List.not_mem_nil,or_false,or_self] at hc
   subst hc
   exact KJ n4 m4 h2
 refine kL (i:=0) (least:=1) hv bM hp rfl h2 b2 fun cz h3 b3=>aj.mk (hk _ (up _ _ ?_))
 rw [e]; simpa using h3
theorem Jw (hx1:fA x=true) (hx0:x ≠ []) (hn:eg nn=true) (hs:cQ L n (.mk 14 x nn m a [A])) (hp:eS v L (aX (n+1) [A]) [A]):nf 197 v n (.mk 14 x nn m a [A]):=by
 intro b aw U aL R h hb hk
 have uZ:=ij hx1
 have SQ:(j6 nn).length <= 20:=mF 20 _
 have e:(Tre.mk 14 x nn m a [A]).pr=[aP lQ,dM x,aP cR,iC nn,aP kN]++(cY A.kind 1 A.pr++[]):=by rw [Tre.c6]; simp [ck]
 rw [e] at hb
 refine ov ?_
 unfold rY
 refine eR hv hL hs h fun b4 aQ vk y hy n4 m4 bM h1 up=>dH n4 m4 h1 (show _=some (.int .u8 14) from rfl) ?_
 refine bm (by decide) (bm (by decide) (bm (by decide) (bm (by decide) (fi rfl (GU n4 m4 h1 (show _=some (.str x) from rfl) ?_)))))
 rw [py]
 refine ⟨by simp [nG]; omega,?_⟩
 rw [py]
 refine ⟨by simp [nG,ga]; omega,GU n4 m4 h1 (show _=some (.int .i64 nn) from rfl) (gV (ko hn) ?_)⟩
 rw [py]
 refine ⟨by simp [nG,ga]; omega,?_⟩
 rw [py]
 refine ⟨by simp [nG,ga,oL]; omega,?_⟩
 refine hX [aP lQ,dM x,aP cR,iC nn,aP kN] (by simp [jY,aP,dM,iC,nG,ga,oL,lQ,cR,kN])
  (sc (gP _ (by decide)) (sc (so hx1 hx0) (sc (gP _ (by decide)) (sc (BB hn) (sc (gP _ (by decide)) sn))))) (by simp) (by simp) h1 hb fun bg h2 b2=>⟨fun c hc=>?_,?_⟩
 . simp only [dK,gw,fN,cF,List.not_mem_nil,or_false,or_self] at hc
   subst hc
   exact KJ n4 m4 h2
 refine kL (i:=0) (least:=1) hv bM hp rfl h2 b2 fun cz h3 b3=>aj.mk (hk _ (up _ _ ?_))
 rw [e]; simpa using h3
theorem pJ {k:Int} {w:aY} {lf rt:Nat} (pd:(k,w,lf,rt) ∈ [((17:Int),B3,2,3),(18,xX,3,4),(20,iJ,6,6),(21,rF,6,6),(22,rD,6,7),(23,qA,6,7),(24,sY,7,8)]) (hs:cQ L n (.mk k x nn m a [A,B])) (hp:eS v L (aX (n+1) [A,B]) [A,B]):nf 198 v n (.mk k x nn m a [A,B]):=by
 intro b aw U aL R h hb hk
 have e:(Tre.mk k x nn m a [A,B]).pr=(cY A.kind lf A.pr++aP w::cY B.kind rt B.pr)++[]:=by
  rw [Tre.c6]
  simp only [cF,List.not_mem_nil,or_false,gJ] at pd
  rcases pd with ⟨rfl,rfl,rfl,rfl⟩ | ⟨rfl,rfl,rfl,rfl⟩ | ⟨rfl,rfl,rfl,rfl⟩ | ⟨rfl,rfl,rfl,rfl⟩ | ⟨rfl,rfl,rfl,rfl⟩ | ⟨rfl,rfl,rfl,rfl⟩ | ⟨rfl,rfl,rfl,rfl⟩ <;> simp [ck,dk,oS]
 rw [e] at hb
 have hw:w ∈ iU++ef:=by
  simp only [cF,List.not_mem_nil,or_false,gJ] at pd
  rcases pd with ⟨_,rfl,_⟩ | ⟨_,rfl,_⟩ | ⟨_,rfl,_⟩ | ⟨_,rfl,_⟩ | ⟨_,rfl,_⟩ | ⟨_,rfl,_⟩ | ⟨_,rfl,_⟩ <;> decide
 refine zR ?_
 unfold C8
 refine eR hv hL hs h fun b4 aQ vk y hy n4 m4 bM h1 up=>dH n4 m4 h1 (show _=some (.int .u8 k) from rfl) ?_
 have fin:=C9 (K':=fun v U=>aj R (.aG []) U) (Kp:=aa R) (rest:=[]) hw hv hL hs rfl hp h1 hb fun cz h3 b3=>aj.mk (hk _ (up _ _ (by rw [e]; simpa using h3)))
 simp only [cF,List.not_mem_nil,or_false,gJ] at pd
 rcases pd with ⟨rfl,rfl,rfl,rfl⟩ | ⟨rfl,rfl,rfl,rfl⟩ | ⟨rfl,rfl,rfl,rfl⟩ | ⟨rfl,rfl,rfl,rfl⟩ | ⟨rfl,rfl,rfl,rfl⟩ | ⟨rfl,rfl,rfl,rfl⟩ | ⟨rfl,rfl,rfl,rfl⟩
 . exact fi rfl fin
 . exact bm (by decide) (fi rfl fin)
 . exact bm (by decide) (bm (by decide) (bm (by decide) (fi rfl fin)))
 . exact bm (by decide) (bm (by decide) (bm (by decide) (bm (by decide) (fi rfl fin))))
 . exact bm (by decide) (bm (by decide) (bm (by decide) (bm (by decide) (bm (by decide) (fi rfl fin)))))
 . exact bm (by decide) (bm (by decide) (bm (by decide) (bm (by decide) (bm (by decide) (bm (by decide) (fi rfl fin))))))
 . exact bm (by decide) (bm (by decide) (bm (by decide) (bm (by decide) (bm (by decide) (bm (by decide) (bm (by decide) (fi rfl fin)))))))
theorem Tf (hs:cQ L n (.mk 19 x nn m a [A])) (hp:eS v L (aX (n+1) [A]) [A]):nf 198 v n (.mk 19 x nn m a [A]):=by
 intro b aw U aL R h hb hk
 have e:(Tre.mk 19 x nn m a [A]).pr=aP s0::(cY A.kind 4 A.pr++[]):=by rw [Tre.c6]; simp [ck]
 rw [e] at hb
 refine zR ?_
 unfold C8
 refine eR hv hL hs h fun b4 aQ vk y hy n4 m4 bM h1 up=>dH n4 m4 h1 (show _=some (.int .u8 19) from rfl) ?_
 refine bm (by decide) (bm (by decide) (fi rfl ?_))
 refine jD (by decide) h1 hb fun bg h2 b2=>kL (i:=0) (least:=4) hv bM hp rfl h2 b2 fun cz h3 b3=>aj.mk (hk _ (up _ _ ?_))
 rw [e]; simpa using h3
theorem WW (hn:eg nn=true) (hs:cQ L n (.mk 25 x nn m a [A])) (hp:eS v L (aX (n+1) [A]) [A]):nf 198 v n (.mk 25 x nn m a [A]):=by
 intro b aw U aL R h hb hk
 have SQ:(j6 nn).length <= 20:=mF 20 _
 have e:(Tre.mk 25 x nn m a [A]).pr=cY A.kind 8 A.pr++([aP zZ,iC nn]++[]):=by rw [Tre.c6]; simp [ck]
 rw [e] at hb
 refine zR ?_
 unfold C8
 refine eR hv hL hs h fun b4 aQ vk y hy n4 m4 bM h1 up=>dH n4 m4 h1 (show _=some (.int .u8 25) from rfl) ?_
 refine bm (by decide) (bm (by decide) (bm (by decide) (bm (by decide) (bm (by decide) (bm (by decide) (bm (by decide) (bm (by decide) (fi rfl ?_))))))))
 refine kL (i:=0) (least:=8) hv bM hp rfl h1 hb fun bg h2 b2=>dH n4 m4 h2 (show _=some (.int .i64 nn) from rfl) ((ko hn).go ?_)
 rw [jS]
 refine ⟨by simp [Ed]; omega,?_⟩
 refine hX [aP zZ,iC nn] (by simp [jY,aP,iC,Ed,zZ]) (sc (gP _ (by decide)) (sc (BB hn) sn)) (by simp) (by simp) h2 b2 fun cz h3 b3=>aj.mk (hk _ (up _ _ ?_))
 rw [e]; simpa using h3
end
end
end Go.Rip
namespace Go.Rip
open Go.Proofs Go.RowKit
theorem Zj {b b4 o:Nat} {aQ af:St} {v:AV} {D:List AV} {c gv:AV} {tk:List Tx} {k:AV->Prop} (hg:gv=.bool true) (n4:b4 ≠ b) (m4:aQ.box b4=some D) (h':RS b v aQ tk af) (hc:D[o]?=some c) (hk:k c) :
 ad K gv (ae (some o) (.box b4 0)) (fun v8=>ad K gv (ah (some (false,1)) v8 af) k):=by
 have aM:=(de.1 hc).1
 have hd:D.drop (0+o)=c::D.drop (o+1):=by
  rw [dI,fU aM,(de.1 hc).2]
 exact F2 hg (h'.fr.bo n4 m4) hd hk
section
variable {b n:Nat} {U aw aQ af:St} {v:AV} {aL l rest:List Tx} {L:List Nd} {s t A B C:Tre} {x:aY} {nn m a:Int}
variable (hv:cB v L.length (c8 L)) (hL:L.length <= 1000)
include hv hL
theorem Th (hn:eg nn=true) (hs:cQ L n (.mk 26 x nn m a [])):nf 199 v n (.mk 26 x nn m a []):=by
 intro b aw U aL R h hb hk
 have e:(Tre.mk 26 x nn m a []).pr=[iC nn]++[]:=by rw [Tre.c6]; simp [ck]
 rw [e] at hb
 refine mG ?_
 unfold qx
 refine eR hv hL hs h fun b4 aQ vk y hy n4 m4 bM h1 up=>dH n4 m4 h1 (show _=some (.int .u8 26) from rfl) ?_
 refine fi rfl (dH n4 m4 h1 (show _=some (.int .i64 nn) from rfl) ((ko hn).go ?_))
 refine hX [iC nn] rfl (sc (BB hn) sn) (by simp) (by simp) h1 hb fun cz h3 b3=>aj.mk (hk _ (up _ _ ?_))
 rw [e]; simpa using h3
theorem uI {k:Int} {w:aY} (pd:(k,w) ∈ [((27:Int),gz),(28,gp),(29,jM),(30,lE)]) (hs:cQ L n (.mk k x nn m a [])):nf 199 v n (.mk k x nn m a []):=by
 intro b aw U aL R h hb hk
 have e:(Tre.mk k x nn m a []).pr=aP w::[]:=by
  rw [Tre.c6]
  simp only [cF,List.not_mem_nil,or_false,gJ] at pd
  rcases pd with ⟨rfl,rfl⟩ | ⟨rfl,rfl⟩ | ⟨rfl,rfl⟩ | ⟨rfl,rfl⟩ <;> simp [ck]
 rw [e] at hb
 have hw:w ∈ iU++ef:=by
  simp only [cF,List.not_mem_nil,or_false,gJ] at pd
  rcases pd with ⟨_,rfl⟩ | ⟨_,rfl⟩ | ⟨_,rfl⟩ | ⟨_,rfl⟩ <;> decide
 refine mG ?_
 unfold qx
 refine eR hv hL hs h fun b4 aQ vk y hy n4 m4 bM h1 up=>dH n4 m4 h1 (show _=some (.int .u8 k) from rfl) ?_
 have fin:=jD (K':=fun v U=>aj R (.aG []) U) (Kp:=aa R) hw h1 hb fun cz h3 b3=>aj.mk (hk _ (up _ _ (by rw [e]; exact h3)))
 simp only [cF,List.not_mem_nil,or_false,gJ] at pd
 rcases pd with ⟨rfl,rfl⟩ | ⟨rfl,rfl⟩ | ⟨rfl,rfl⟩ | ⟨rfl,rfl⟩
 . exact bm (by decide) (fi rfl fin)
 . exact bm (by decide) (bm (by decide) (fi rfl fin))
 . exact bm (by decide) (bm (by decide) (bm (by decide) (fi rfl fin)))
 . exact bm (by decide) (bm (by decide) (bm (by decide) (bm (by decide) (fi rfl fin))))
theorem OW (hx1:fA x=true) (hx0:x ≠ []) (hs:cQ L n (.mk 31 x nn m a [])):nf 199 v n (.mk 31 x nn m a []):=by
 intro b aw U aL R h hb hk
 have uZ:=ij hx1
 have e:(Tre.mk 31 x nn m a []).pr=[aP qD,dM x]++[]:=by rw [Tre.c6]; simp [ck]
 rw [e] at hb
 refine mG ?_
 unfold qx
 refine eR hv hL hs h fun b4 aQ vk y hy n4 m4 bM h1 up=>dH n4 m4 h1 (show _=some (.int .u8 31) from rfl) ?_
 refine bm (by decide) (bm (by decide) (bm (by decide) (bm (by decide) (bm (by decide) (fi rfl (dH n4 m4 h1 (show _=some (.str x) from rfl) ?_))))))
 rw [jS]
 refine ⟨by simp [Aa]; omega,?_⟩
 refine hX [aP qD,dM x] (by simp [jY,aP,dM,Aa,qD]) (sc (gP _ (by decide)) (sc (so hx1 hx0) sn)) (by simp) (by simp) h1 hb fun cz h3 b3=>aj.mk (hk _ (up _ _ ?_))
 rw [e]; simpa using h3
theorem Tg (hx1:fA x=true) (hx0:x ≠ []) (hs:cQ L n (.mk 32 x nn m a [])):nf 199 v n (.mk 32 x nn m a []):=by
 intro b aw U aL R h hb hk
 have uZ:=ij hx1
 have e:(Tre.mk 32 x nn m a []).pr=[aP qz,dM x]++[]:=by rw [Tre.c6]; simp [ck]
 rw [e] at hb
 refine mG ?_
 unfold qx
 refine eR hv hL hs h fun b4 aQ vk y hy n4 m4 bM h1 up=>dH n4 m4 h1 (show _=some (.int .u8 32) from rfl) ?_
 refine bm (by decide) (bm (by decide) (bm (by decide) (bm (by decide) (bm (by decide) (bm (by decide) (fi rfl (dH n4 m4 h1 (show _=some (.str x) from rfl) ?_)))))))
 rw [jS]
 refine ⟨by simp [B0]; omega,?_⟩
 refine hX [aP qz,dM x] (by simp [jY,aP,dM,B0,qz]) (sc (gP _ (by decide)) (sc (so hx1 hx0) sn)) (by simp) (by simp) h1 hb fun cz h3 b3=>aj.mk (hk _ (up _ _ ?_))
 rw [e]; simpa using h3
theorem OX {k:Int} (h2:k=33\/k=37) (hx1:fA x=true) (hx0:x ≠ []) (hs:cQ L n (.mk k x nn m a [])):nf 199 v n (.mk k x nn m a []):=by
 intro b aw U aL R h hb hk
 have e:(Tre.mk k x nn m a []).pr=[dM x]++[]:=by rw [Tre.c6]; rcases h2 with rfl | rfl <;> simp [ck]
 rw [e] at hb
 refine mG ?_
 unfold qx
 refine eR hv hL hs h fun b4 aQ vk y hy n4 m4 bM h1 up=>dH n4 m4 h1 (show _=some (.int .u8 k) from rfl) ?_
 refine bm (by omega) (bm (by omega) (bm (by omega) (bm (by omega) (bm (by omega) (bm (by omega) (bm (by omega) ?_))))))
 intro j hj
 have J:∀ w,w=AV.bool true->j (.box b 0) (.box b4 0) vk (.int .u8 k) w aQ:=by
  rintro w rfl
  refine hj _ _ _ _ _ _ (ca (dH n4 m4 h1 (show _=some (.str x) from rfl) ?_))
  refine hX [dM x] rfl (sc (so hx1 hx0) sn) (by simp) (by simp) h1 hb fun cz h3 b3=>aj.mk (hk _ (up _ _ ?_))
  rw [e]; simpa using h3
 rcases h2 with rfl | rfl
 . exact fi rfl (J _ rfl)
 . refine bm (by decide) ?_
   rw [aT,al]
   exact J _ rfl
theorem OV {ks:List Tre} (jQ:ks.length <= 900) (hx1:fA x=true) (hx0:x ≠ []) (hs:cQ L n (.mk 34 x nn m a ks)) (hp:eS v L (aX (n+1) ks) ks):nf 199 v n (.mk 34 x nn m a ks):=by
 intro b aw U aL R h hb hk
 have uZ:=ij hx1
 have e:(Tre.mk 34 x nn m a ks).pr=[dM x,aP ek]++(dr dW (ks.map Tre.pr)++(aP eV::[])):=by
  rw [Tre.c6]
  have e3:ks.map Tre.pr=(ks.map fun t=>(t.kind,t.pr)).map (·.2):=by rw [List.map_map]; rfl
  rw [e3]; simp [ck]
 rw [e] at hb
 refine mG ?_
 unfold qx
 refine eR hv hL hs h fun b4 aQ vk y hy n4 m4 bM h1 up=>dH n4 m4 h1 (show _=some (.int .u8 34) from rfl) ?_
 refine bm (by decide) (bm (by decide) (bm (by decide) (bm (by decide) (bm (by decide) (bm (by decide) (bm (by decide) ?_))))))
 intro j hj
 refine bm (by decide) ?_
 rw [aT,al,decide_eq_false (by decide)]
 refine hj _ _ _ _ _ _ (bO (fi rfl (dH n4 m4 h1 (show _=some (.str x) from rfl) ?_)))
 rw [jS]
 refine ⟨by simp [oz]; omega,?_⟩
 refine hX [dM x,aP ek] (by simp [jY,aP,dM,oz,ek]) (sc (so hx1 hx0) (sc (gP _ (by decide)) sn)) (by simp) (by simp) h1 hb fun bg h2 b2=>?_
 refine Ax bM hp (by omega) h2 b2 fun cz h3 b3=>jD (by decide) h3 b3 fun dZ h4 b4=>aj.mk (hk _ (up _ _ ?_))
 rw [e]; simpa using h4
theorem WX {ps:List Tre} (jQ:ps.length <= 900) (hs:cQ L n (.mk 35 x nn m a (ps++[B]))) (hp:eS v L (aX (n+1) (ps++[B])) (ps++[B])):nf 199 v n (.mk 35 x nn m a (ps++[B])):=by
 intro b aw U aL R h hb hk
 have e:(Tre.mk 35 x nn m a (ps++[B])).pr=[aP x5,aP ek]++(dr dW (ps.map Tre.pr)++(aP eV::(cY B.kind 1 B.pr++[]))):=by
  rw [Tre.c6]
  have e1:(ps++[B]).map (fun t=>(t.kind,t.pr))=(ps.map fun t=>(t.kind,t.pr))++[(B.kind,B.pr)]:=by simp
  rw [e1]
  generalize hq:ps.map (fun t=>(t.kind,t.pr))=q
  have e3:ps.map Tre.pr=q.map (·.2):=by rw [<- hq,List.map_map]; rfl
  rw [e3]
  simp [ck,mv]
 rw [e] at hb
 have hlen:=hp.len
 rw [cZ,List.length_singleton] at hlen
 obtain ⟨qj,sG⟩:=hp.app
 have Cy:=qj.len
 have cV:aX (n+1) (ps++[B]) ≠ []:=fun e=>by rw [e] at hlen; simp at hlen
 refine mG ?_
 unfold qx
 refine eR hv hL hs h fun b4 aQ vk y hy n4 m4 bM h1 up=>dH n4 m4 h1 (show _=some (.int .u8 35) from rfl) ?_
 refine bm (by decide) (bm (by decide) (bm (by decide) (bm (by decide) (bm (by decide) (bm (by decide) (bm (by decide) ?_))))))
 intro j hj
 refine bm (by decide) ?_
 rw [aT,al,decide_eq_false (by decide)]
 refine hj _ _ _ _ _ _ (bO (bm (by decide) (fi rfl ?_)))
 refine hX [aP x5,aP ek] rfl (sc (gP _ (by decide)) (sc (gP _ (by decide)) sn)) (by simp) (by simp) h1 hb fun bg h2 b2=>?_
 change cB vk (aX (n+1) (ps++[B])).length (cX (aX (n+1) (ps++[B]))) at bM
 have mM:(((aX (n+1) (ps++[B])).length:Int) - 1)=((ps.length:Nat):Int):=by omega
 rw [bM.len,al,pB,mM]
 refine ⟨aW (by omega) (by omega),?_⟩
 refine jC (i:=0) (j:=ps.length) bM cV (by omega) (by omega) (eG _ _ _) rfl fun c=>?_
 rw [dQ]
 refine Ax (.inr ⟨_,rfl⟩) qj (by omega) h2 b2 fun cz h3 b3=>jD (by decide) h3 b3 fun dZ h4 b4=>?_
 rw [al,pB,mM]
 refine ⟨aW (by omega) (by omega),?_⟩
 refine kL (least:=1) (i:=ps.length) hv bM hp (by simp) h4 b4 fun eW h5 b5=>aj.mk (hk _ (up _ _ ?_))
 rw [e]; simpa using h5
theorem Jx (hB1:B.pr=[dM B.text]) (hx1:fA B.text=true) (hx0:B.text ≠ []) (hs:cQ L n (.mk 36 x nn m a [A,B,C])) (hp:eS v L (aX (n+1) [A,B,C]) [A,B,C]):nf 199 v n (.mk 36 x nn m a [A,B,C]):=by
 intro b aw U aL R h hb hk
 have uZ:=ij hx1
 have e:(Tre.mk 36 x nn m a [A,B,C]).pr=[aP qB,aP uO]++(cY A.kind 1 A.pr++([aP dO,aP s8,dM B.text,aP rE]++(cY C.kind 1 C.pr++(aP rG::[])))):=by
  rw [Tre.c6]; simp [ck,hB1]
 rw [e] at hb
 refine mG ?_
 unfold qx
 refine eR hv hL hs h fun b4 aQ vk y hy n4 m4 bM h1 up=>dH n4 m4 h1 (show _=some (.int .u8 36) from rfl) ?_
 refine bm (by decide) (bm (by decide) (bm (by decide) (bm (by decide) (bm (by decide) (bm (by decide) (bm (by decide) ?_))))))
 intro j hj
 refine bm (by decide) ?_
 rw [aT,al,decide_eq_false (by decide)]
 refine hj _ _ _ _ _ _ (bO (bm (by decide) (bm (by decide) (fi rfl ?_))))
 refine hX [aP qB,aP uO] rfl (sc (gP _ (by decide)) (sc (gP _ (by decide)) sn)) (by simp) (by simp) h1 hb fun bg h2 b2=>?_
 refine kL (least:=1) (i:=0) hv bM hp rfl h2 b2 fun cz h3 b3=>?_
 obtain ⟨vl,fP⟩:=h3.ld
 change cB vk (aX (n+1) [A,B,C]).length (cX (aX (n+1) [A,B,C])) at bM
 have hl:=hp.len
 obtain ⟨q,hq⟩:∃ q,(aX (n+1) [A,B,C])[1]?=some q:=⟨_,rfl⟩
 obtain ⟨_,_,z,hz,_,hzt⟩:=hp.nd 1 q B hq rfl
 simp only [eo,ax]
 refine hU (dz fP rfl (ae2 (c:=1) bM hq (Mf (hv.zj (U:=cz)) hz (show (cM z)[1]?=some (.str z.text) from rfl) ?_)))
 rw [hzt,py]
 refine ⟨by simp [oM]; omega,?_⟩
 rw [py]
 refine ⟨by simp [oM,BZ]; omega,?_⟩
 refine hX [aP dO,aP s8,dM B.text,aP rE] (by simp [jY,aP,dM,oM,BZ,dO,s8,rE]) (sc (gP _ (by decide)) (sc (gP _ (by decide)) (sc (so hx1 hx0) (sc (gP _ (by decide)) sn)))) (by simp) (by simp) h3 b3 fun dZ h4 b4=>?_
 refine kL (least:=1) (i:=2) hv bM hp rfl h4 b4 fun eW h5 b5=>jD (by decide) h5 b5 fun oU h6 b6=>aj.mk (hk _ (up _ _ ?_))
 rw [e]; simpa using h6
theorem OU {k:Int} (iT:k=6\/k=7) (hn:eg nn=true) (hs:cQ L n (.mk k x nn m a [])):nf 194 v n (.mk k x nn m a []):=by
 intro b aw U aL R h hb hk
 have SQ:(j6 nn).length <= 20:=mF 20 _
 refine Fu ?_
 unfold Ig
 refine eR hv hL hs h fun b4 aQ vk y hy n4 m4 bM h1 up=>?_
 rcases iT with rfl | rfl
 . refine dH n4 m4 h1 (show _=some (.int .u8 6) from rfl) (RZ rfl (Zj rfl n4 m4 h1 (show _=some (.int .i64 nn) from rfl) ?_))
   by_cases c1:nn=1
   . subst c1
     have e:(Tre.mk 6 x 1 m a []).pr=aP xY::[]:=by rw [Tre.c6]; simp [ck]
     rw [e] at hb
     exact sA rfl (zA rfl (Ef (ca (jD (by decide) h1 hb fun bg h2 b2=>aj.mk (hk _ (up _ _ (by rw [e]; exact h2)))))))
   refine sA rfl ?_
   rw [aT,ax,decide_eq_false c1]
   refine Ef (bO (dH n4 m4 h1 (show _=some (.int .u8 6) from rfl) (RZ rfl (Zj rfl n4 m4 h1 (show _=some (.int .i64 nn) from rfl) ?_))))
   by_cases c2:nn=2
   . subst c2
     have e:(Tre.mk 6 x 2 m a []).pr=aP tZ::[]:=by rw [Tre.c6]; simp [ck]
     rw [e] at hb
     exact sA rfl (zA rfl (Ef (ca (jD (by decide) h1 hb fun bg h2 b2=>aj.mk (hk _ (up _ _ (by rw [e]; exact h2)))))))
   refine sA rfl ?_
   rw [aT,ax,decide_eq_false c2]
   have e:(Tre.mk 6 x nn m a []).pr=[aP kU,iC nn]++[]:=by rw [Tre.c6]; simp [ck,c1,c2]
   rw [e] at hb
   refine Ef (bO (dH n4 m4 h1 (show _=some (.int .u8 6) from rfl) (fi rfl (dH n4 m4 h1 (show _=some (.int .i64 nn) from rfl) ((ko hn).go ?_)))))
   rw [jS]
   refine ⟨by simp [B2]; omega,?_⟩
   refine hX [aP kU,iC nn] (by simp [jY,aP,iC,B2,kU]) (sc (gP _ (by decide)) (sc (BB hn) sn)) (by simp) (by simp) h1 hb fun cz h3 b3=>aj.mk (hk _ (up _ _ ?_))
   rw [e]; simpa using h3
 . have e:(Tre.mk 7 x nn m a []).pr=[aP kM,iC nn]++[]:=by rw [Tre.c6]; simp [ck]
   rw [e] at hb
   refine dH n4 m4 h1 (show _=some (.int .u8 7) from rfl) (Dt (by decide) (jt rfl (jt rfl (jt rfl (B4 (bO ?_))))))
   refine dH n4 m4 h1 (show _=some (.int .u8 7) from rfl) (Dt (by decide) (jt rfl (jt rfl (jt rfl (B4 (bO ?_))))))
   refine dH n4 m4 h1 (show _=some (.int .u8 7) from rfl) (bm (by decide) (dH n4 m4 h1 (show _=some (.int .u8 7) from rfl) (fi rfl (dH n4 m4 h1 (show _=some (.int .i64 nn) from rfl) ((ko hn).go ?_)))))
   rw [jS]
   refine ⟨by simp [z8]; omega,?_⟩
   refine hX [aP kM,iC nn] (by simp [jY,aP,iC,z8,kM]) (sc (gP _ (by decide)) (sc (BB hn) sn)) (by simp) (by simp) h1 hb fun cz h3 b3=>aj.mk (hk _ (up _ _ ?_))
   rw [e]; simpa using h3
theorem Mi {ps:List Tre} (jQ:ps.length <= 900) (hB:ey B.kind=true) (hs:cQ L n (.mk 8 x nn m a (ps++[B]))) (hp:eS v L (aX (n+1) (ps++[B])) (ps++[B])):nf 194 v n (.mk 8 x nn m a (ps++[B])):=by
 intro b aw U aL R h hb hk
 have e:(Tre.mk 8 x nn m a (ps++[B])).pr=aP ek::(dr dW (ps.map Tre.pr)++([aP eV,aP gd]++(B.pr++[]))):=by
  rw [Tre.c6]
  have e1:(ps++[B]).map (fun t=>(t.kind,t.pr))=(ps.map fun t=>(t.kind,t.pr))++[(B.kind,B.pr)]:=by simp
  rw [e1]
  generalize hq:ps.map (fun t=>(t.kind,t.pr))=q
  have e3:ps.map Tre.pr=q.map (·.2):=by rw [<- hq,List.map_map]; rfl
  rw [e3]
  simp [ck,mv]
 rw [e] at hb
 have hlen:=hp.len
 rw [cZ,List.length_singleton] at hlen
 obtain ⟨qj,sG⟩:=hp.app
 have Cy:=qj.len
 have cV:aX (n+1) (ps++[B]) ≠ []:=fun e=>by rw [e] at hlen; simp at hlen
 refine Fu ?_
 unfold Ig
 refine eR hv hL hs h fun b4 aQ vk y hy n4 m4 bM h1 up=>?_
 refine dH n4 m4 h1 (show _=some (.int .u8 8) from rfl) (Dt (by decide) (jt rfl (jt rfl (jt rfl (B4 (bO ?_))))))
 refine dH n4 m4 h1 (show _=some (.int .u8 8) from rfl) (Dt (by decide) (jt rfl (jt rfl (jt rfl (B4 (bO ?_))))))
 refine dH n4 m4 h1 (show _=some (.int .u8 8) from rfl) (bm (by decide) (dH n4 m4 h1 (show _=some (.int .u8 8) from rfl) (bm (by decide) ?_)))
 refine jD (by decide) h1 hb fun bg h2 b2=>?_
 change cB vk (aX (n+1) (ps++[B])).length (cX (aX (n+1) (ps++[B]))) at bM
 have mM:(((aX (n+1) (ps++[B])).length:Int) - 1)=((ps.length:Nat):Int):=by omega
 rw [bM.len,al,pB,mM]
 refine ⟨aW (by omega) (by omega),?_⟩
 refine jC (i:=0) (j:=ps.length) bM cV (by omega) (by omega) (eG _ _ _) rfl fun c=>?_
 rw [dQ]
 refine Ax (.inr ⟨_,rfl⟩) qj (by omega) h2 b2 fun cz h3 b3=>?_
 refine hX [aP eV,aP gd] rfl (sc (gP _ (by decide)) (sc (gP _ (by decide)) sn)) (by simp) (by simp) h3 b3 fun dZ h4 b4=>?_
 rw [al,pB,mM]
 refine ⟨aW (by omega) (by omega),?_⟩
 refine xM (i:=ps.length) bM hp (by simp) hB h4 b4 fun eW h5 b5=>aj.mk (hk _ (up _ _ ?_))
 rw [e]; simpa using h5
theorem Ju (hA:ey A.kind=true) (hx1:fA x=true) (hx0:x ≠ []) (hs:cQ L n (.mk 2 x nn m a [A])) (hp:eS v L (aX (n+1) [A]) [A]):nf 192 v n (.mk 2 x nn m a [A]):=by
 intro b aw U aL R h hb hk
 have uZ:=ij hx1
 have e:(Tre.mk 2 x nn m a [A]).pr=[aP fC,dM x,aP eD]++(A.pr++(aP dO::[])):=by rw [Tre.c6]; simp [ck]
 rw [e] at hb
 refine Ft ?_
 unfold Ie
 refine eR hv hL hs h fun b4 aQ vk y hy n4 m4 bM h1 up=>dH n4 m4 h1 (show _=some (.int .u8 2) from rfl) ?_
 refine fi rfl (dH n4 m4 h1 (show _=some (.str x) from rfl) ?_)
 rw [jS]
 refine ⟨by simp [rH]; omega,?_⟩
 rw [jS]
 refine ⟨by simp [rH,re]; omega,?_⟩
 refine hX [aP fC,dM x,aP eD] (by simp [jY,aP,dM,rH,re,fC,eD]) (sc (gP _ (by decide)) (sc (so hx1 hx0) (sc (gP _ (by decide)) sn))) (by simp) (by simp) h1 hb fun bg h2 b2=>?_
 refine xM (i:=0) bM hp rfl hA h2 b2 fun cz h3 b3=>jD (by decide) h3 b3 fun dZ h4 b4=>aj.mk (hk _ (up _ _ ?_))
 rw [e]; simpa using h4
theorem Tc {k:Int} {ps:List Tre} (Ha:k=3\/k=4) (jQ:ps.length <= 900) (hB:ey B.kind=true) (hx1:fA x=true) (hx0:x ≠ []) (hs:cQ L n (.mk k x nn m a (ps++[B,C]))) (hp:eS v L (aX (n+1) (ps++[B,C])) (ps++[B,C])):nf 192 v n (.mk k x nn m a (ps++[B,C])):=by
 intro b aw U aL R h hb hk
 have uZ:=ij hx1
 have hbr:cY C.kind 0 C.pr=C.pr:=by unfold cY; rw [if_pos (Nat.zero_le _)]
 have e:(Tre.mk k x nn m a (ps++[B,C])).pr=[aP (if k=3 then j9 else gO),dM x,aP ek]++(dr dW (ps.map Tre.pr)++([aP eV,aP eD]++(B.pr++(aP iJ::(cY C.kind 0 C.pr++(aP dO::[])))))):=by
  rw [Tre.c6,hbr]
  have e1:(ps++[B,C]).map (fun t=>(t.kind,t.pr))=(ps.map fun t=>(t.kind,t.pr))++[(B.kind,B.pr),(C.kind,C.pr)]:=by simp
  rw [e1]
  generalize hq:ps.map (fun t=>(t.kind,t.pr))=q
  have e3:ps.map Tre.pr=q.map (·.2):=by rw [<- hq,List.map_map]; rfl
  rw [e3]
  have el:(q++[(B.kind,B.pr),(C.kind,C.pr)]).length - 2=q.length:=by simp
  have Zd:(q++[(B.kind,B.pr),(C.kind,C.pr)]).length - 1=q.length+1:=by simp
  rcases Ha with rfl | rfl <;> simp [ck,el,Zd,mv]
 rw [e] at hb
 have hlen:=hp.len
 rw [cZ,gu,List.length_singleton] at hlen
 obtain ⟨qj,sG⟩:=hp.app
 have Cy:=qj.len
 have cV:aX (n+1) (ps++[B,C]) ≠ []:=fun e=>by rw [e] at hlen; simp at hlen
 refine Ft ?_
 unfold Ie
 refine eR hv hL hs h fun b4 aQ vk y hy n4 m4 bM h1 up=>dH n4 m4 h1 (show _=some (.int .u8 k) from rfl) ?_
 refine bm (by omega) ?_
 intro j hj
 have body:∀ w:aY,w=(if k=3 then B1 else vr)->j (.box b 0) (.box b4 0) vk (.str w) aQ:=by
  intro w hw
  refine hj _ _ _ _ _ ?_
  change cB vk (aX (n+1) (ps++[B,C])).length (cX (aX (n+1) (ps++[B,C]))) at bM
  have qi:(((aX (n+1) (ps++[B,C])).length:Int) - 2)=((ps.length:Nat):Int):=by omega
  have mM:(((aX (n+1) (ps++[B,C])).length:Int) - 1)=((ps.length+1:Nat):Int):=by omega
  rw [bM.len,al]
  refine dH n4 m4 h1 (show _=some (.str x) from rfl) ?_
  have Kj:w.length <= 10:=by subst hw; split <;> decide
  rw [jS]
  refine ⟨by omega,?_⟩
  rw [jS]
  refine ⟨by simp [oz]; omega,?_⟩
  have SU:(w++x)++oz=jY [aP (if k=3 then j9 else gO),dM x,aP ek]:=by
   subst hw
   rcases Ha with rfl | rfl
   . simp [jY,aP,dM,B1,oz,j9,ek]
   . simp [jY,aP,dM,vr,oz,gO,ek]
  refine hX [aP (if k=3 then j9 else gO),dM x,aP ek] SU (sc (gP _ (by split <;> decide)) (sc (so hx1 hx0) (sc (gP _ (by decide)) sn))) (by simp) (by simp) h1 hb fun bg h2 b2=>?_
  rw [pB,qi]
  refine ⟨aW (by omega) (by omega),?_⟩
  refine jC (i:=0) (j:=ps.length) bM cV (by omega) (by omega) (eG _ _ _) rfl fun c=>?_
  rw [dQ]
  refine Ax (.inr ⟨_,rfl⟩) qj (by omega) h2 b2 fun cz h3 b3=>?_
  refine hX [aP eV,aP eD] rfl (sc (gP _ (by decide)) (sc (gP _ (by decide)) sn)) (by simp) (by simp) h3 b3 fun dZ h4 b4=>?_
  rw [pB,qi]
  refine ⟨aW (by omega) (by omega),?_⟩
  refine xM (i:=ps.length) bM hp (by simp) hB h4 b4 fun eW h5 b5=>jD (by decide) h5 b5 fun oU h6 b6=>?_
  rw [pB,mM]
  refine ⟨aW (by omega) (by omega),?_⟩
  refine kL (least:=0) (i:=ps.length+1) hv bM hp (by simp) h6 b6 fun jN h7 b7=>jD (by decide) h7 b7 fun Bi h8 b8=>aj.mk (hk _ (up _ _ ?_))
  rw [e]; simpa using h8
 refine dH n4 m4 h1 (show _=some (.int .u8 k) from rfl) ?_
 rcases Ha with rfl | rfl
 . exact bm (by decide) (body _ rfl)
 . exact fi rfl (body _ rfl)
end
end Go.Rip
namespace Go.Rip
open Go.Proofs Go.RowKit
def qu (k:Int):FuncId:=if ki k=true then 192 else if ey k=true then 194 else if dk k=1 then 197 else if dk k < 9 then 198 else 199
section
variable {b n:Nat} {U aw aQ af:St} {v:AV} {aL l rest:List Tx} {L:List Nd} {s t A B C:Tre} {x:aY} {nn m a:Int}
variable (hv:cB v L.length (c8 L)) (hL:L.length <= 1000)
include hv hL
theorem HY (hs:cQ L n s) (h5:s.kind ≠ 5) (h9:s.kind ≠ 9) (hf:nf (qu s.kind) v n s):yx v n s:=by
 intro b aw U aL R h hb hk
 refine zP ?_
 unfold C7
 refine eR hv hL hs h fun b4 aQ vk y hy n4 m4 bM h1 up=>dH n4 m4 h1 (show _=some (.int .u8 s.kind) from rfl) ((ru s.kind).go ?_)
 have call:∀ f,qu s.kind=f->ag K f [.box b 0,.int .i64 (n:Nat)] aQ (aq (fun cJ U=>aj R (AV.aG []) U) (aa R)):=by
  intro f NC
  rw [<- NC]
  exact hf _ _ _ _ _ h1 hb fun af h'=>aj.mk (hk _ (up _ _ h'))
 cases c1:ki s.kind with
 | true=>exact ca (call 192 (by unfold qu; rw [if_pos c1]))
 | false =>
 refine bO (dH n4 m4 h1 (show _=some (.int .u8 s.kind) from rfl) (bm h5 (dH n4 m4 h1 (show _=some (.int .u8 s.kind) from rfl) ((u1 s.kind).go ?_))))
 cases c2:ey s.kind with
 | true=>exact ca (call 194 (by unfold qu; rw [if_neg (by simp [c1]),if_pos c2]))
 | false =>
 have Ez:qu s.kind=if dk s.kind=1 then 197 else if dk s.kind < 9 then 198 else 199:=by
  unfold qu; rw [if_neg (by simp [c1]),if_neg (by simp [c2])]
 refine bO (dH n4 m4 h1 (show _=some (.int .u8 s.kind) from rfl) (bm h9 (dH n4 m4 h1 (show _=some (.int .u8 s.kind) from rfl) ((ve s.kind).go ?_))))
 by_cases c3:dk s.kind=1
 . exact fi (by omega) (call 197 (by rw [Ez,if_pos c3]))
 refine bm (by omega) (dH n4 m4 h1 (show _=some (.int .u8 s.kind) from rfl) ((ve s.kind).go ?_))
 rw [a7,al]
 refine cu (fun h'=>call 198 (by rw [Ez,if_neg c3,if_pos (by omega)])) fun h'=>call 199 (by rw [Ez,if_neg c3,if_neg (by omega)])
theorem Mh (hA:ey A.kind=true) (hx1:fA x=true) (hx0:x ≠ []) (hs:cQ L n (.mk 5 x nn m a [A])) (hp:eS v L (aX (n+1) [A]) [A]):yx v n (.mk 5 x nn m a [A]):=by
 intro b aw U aL R h hb hk
 have uZ:=ij hx1
 have e:(Tre.mk 5 x nn m a [A]).pr=[dM x,aP eD]++(A.pr++[]):=by rw [Tre.c6]; simp [ck]
 rw [e] at hb
 refine zP ?_
 unfold C7
 refine eR hv hL hs h fun b4 aQ vk y hy n4 m4 bM h1 up=>dH n4 m4 h1 (show _=some (.int .u8 5) from rfl) ((ru 5).go (bO ?_))
 refine dH n4 m4 h1 (show _=some (.int .u8 5) from rfl) (fi rfl (dH n4 m4 h1 (show _=some (.str x) from rfl) ?_))
 rw [jS]
 refine ⟨by simp [re]; omega,?_⟩
 refine hX [dM x,aP eD] (by simp [jY,aP,dM,re,eD]) (sc (so hx1 hx0) (sc (gP _ (by decide)) sn)) (by simp) (by simp) h1 hb fun bg h2 b2=>?_
 refine xM (i:=0) bM hp rfl hA h2 b2 fun cz h3 b3=>aj.mk (hk _ (up _ _ ?_))
 rw [e]; simpa using h3
theorem Tb {ts:List Tre} (jQ:ts.length <= 900) (hs:cQ L n (.mk 9 x nn m a ts)) (hp:eS v L (aX (n+1) ts) ts):yx v n (.mk 9 x nn m a ts):=by
 intro b aw U aL R h hb hk
 have e:(Tre.mk 9 x nn m a ts).pr=dr dO (ts.map fun t=>cY t.kind 1 t.pr):=by
  rw [Tre.c6]; simp only [ck,List.map_map]; rfl
 rw [e] at hb
 refine zP ?_
 unfold C7
 refine eR hv hL hs h fun b4 aQ vk y hy n4 m4 bM h1 up=>dH n4 m4 h1 (show _=some (.int .u8 9) from rfl) ((ru 9).go (bO ?_))
 refine dH n4 m4 h1 (show _=some (.int .u8 9) from rfl) (bm (by decide) (dH n4 m4 h1 (show _=some (.int .u8 9) from rfl) ((u1 9).go (bO ?_))))
 refine dH n4 m4 h1 (show _=some (.int .u8 9) from rfl) (fi rfl ?_)
 change cB vk (aX (n+1) ts).length (cX (aX (n+1) ts)) at bM
 have hlen:=hp.len
 generalize aX (n+1) ts=ks at bM hp hlen
 have hk:∀ af,RS b v aQ (aL++dr dO (ts.map fun t=>cY t.kind 1 t.pr)) af->R (.ret (.aG [])) af:=fun af h'=>hk af (up _ _ (by rw [e]; exact h'))
 refine ⟨fun m w0 w1 w4 af=>∃ i:Nat,m=ks.length - i/\i <= ks.length/\w0=.box b 0/\w1=vk/\w4=.int .i64 (i:Nat)/\RS b v aQ (aL++dr dO ((ts.map fun t=>cY t.kind 1 t.pr).take i)) af,⟨_,0,rfl,by omega,rfl,rfl,rfl,by simpa [dr] using h1⟩,?_⟩
 rintro m w0 w1 w4 bg ⟨i,rfl,hi,rfl,rfl,rfl,h2⟩
 rw [bM.len,al,a7,al]
 refine cu (fun aM=>?_) fun gq=>?_
 . have aM:i < ks.length:=by omega
   obtain ⟨q,hq⟩:∃ q,ks[i]?=some q:=⟨ks[i],by simp [aM]⟩
   obtain ⟨t,ht⟩:∃ t,ts[i]?=some t:=⟨ts[i]'(by omega),by simp [show i < ts.length by omega]⟩
   have nQ:(ts.map fun t=>cY t.kind 1 t.pr)[i]?=some (cY t.kind 1 t.pr):=by simp [ht]
   have jF:(ts.map fun t=>cY t.kind 1 t.pr).take (i+1)=(ts.map fun t=>cY t.kind 1 t.pr).take i++[cY t.kind 1 t.pr]:=by rw [lM,nQ]; rfl
   have hle:=zO dO (ts.map fun t=>cY t.kind 1 t.pr) (i+1)
   have eT:=hb
   rw [cZ] at eT
   intro j hj
   have tail:∀ (tk:List Tx) (af:St),RS b v aQ tk af->tk++cY t.kind 1 t.pr=aL++dr dO ((ts.map fun t=>cY t.kind 1 t.pr).take (i+1))->j (.box b 0) w1 (.int .i64 (i:Nat)) af:=by
    intro tk af h' e
    refine hj _ _ _ _ (kL (least:=1) (rest:=[]) hv bM hp ht h' (by rw [gw,e,cZ]; omega) fun cz h3 b3=>?_)
    rw [cr]
    exact ⟨aW (by omega) (by omega),ks.length - (i+1),by omega,i+1,rfl,by omega,rfl,rfl,by simp,by rw [<- e]; exact h3⟩
   rw [cx,al]
   refine cu (fun vO=>?_) fun UP=>?_
   . have cV:(ts.map fun t=>cY t.kind 1 t.pr).take i ≠ []:=fun e=>by
      have:=congrArg List.length e
      rw [List.length_take,List.length_map,kJ] at this; omega
     have oQ:=zN dO (cY t.kind 1 t.pr) cV
     rw [jF] at hle tail
     rw [oQ] at hle tail
     refine jD (w:=dO) (rest:=cY t.kind 1 t.pr) (by decide) h2 (by simp at hb hle ⊢; omega) fun cz h3 _=>?_
     exact tail _ cz h3 (by simp)
   . have sE:i=0:=by omega
     subst sE
     exact tail _ bg h2 (by rw [jF]; simp [dr])
 . have hi:i=ks.length:=by omega
   subst hi
   rw [o4 (by simp; omega)] at h2
   exact aj.mk (hk _ h2)
theorem W3 {s:Tre} (hs:cQ L n s) (h9:s.flat.length <= 900) (ho:s.ok=true) (h1:s.kind ≠ 1) (hp:eS v L (aX (n+1) s.kids) s.kids):yx v n s/\(ey s.kind=true->JP v n s):=by
 cases s with
 | mk k x nn m a ks =>
   obtain ⟨fo,eX,g1,g2,g3⟩:=Tre.xm ho
   obtain ⟨f1,f2,f3,f4,f5,f6⟩:=oc g1
   have hlen:(Tre.bQ ks).length+1=(Tre.mk k x nn m a ks).flat.length:=by rw [Tre.fY]; simp
   have jQ:ks.length <= 900:=by have:=Tre.mC ks; omega
   have hp:eS v L (aX (n+1) ks) ks:=hp
   have oP:k ≠ 1:=h1
   have hk:k=2\/(k=3\/k=4)\/k=5\/(k=6\/k=7)\/k=8\/k=9\/k=10\/k=11\/k=15\/k=12\/k=13\/k=14\/k=16\/(k=17\/k=18\/k=20\/k=21\/k=22\/k=23\/k=24)\/k=19\/k=25\/k=26\/(k=27\/k=28\/k=29\/k=30)\/k=31\/k=32\/(k=33\/k=37)\/k=34\/k=35\/k=36:=by
    by_cases hr:2 <= k/\k <= 37
    . omega
    . exfalso
      unfold bw at eX
      rw [if_neg (by omega),if_neg (by omega),if_neg (by omega),if_neg (by omega),if_neg (by omega),if_neg (by omega),if_neg (by omega),if_neg (by omega),if_neg (by omega),if_neg (by omega),if_neg (by omega),if_neg (by omega),if_neg (by omega),if_neg (by omega),if_neg (by omega),if_neg (by omega),if_neg (by omega),if_neg (by omega),if_neg (by omega),if_neg (by omega),if_neg (by omega)] at eX
      cases eX
   have nil:c7 (ks.map Tre.kind) []=true->ks=[]:=fun h=>by
    have:(ks.map Tre.kind).isEmpty=true:=h
    simpa using this
   have via:∀ f,qu k=f->k ≠ 5->k ≠ 9->ey k=false->nf f v n (.mk k x nn m a ks)->yx v n (.mk k x nn m a ks)/\(ey (Tre.mk k x nn m a ks).kind=true->JP v n (.mk k x nn m a ks)):=by
    intro f hf h5 h9 hty hfn
    subst hf
    exact ⟨HY hv hL hs h5 h9 hfn,fun h=>by rw [show (Tre.mk k x nn m a ks).kind=k from rfl,hty] at h; cases h⟩
   have abi:qu k=194->k ≠ 5->k ≠ 9->nf 194 v n (.mk k x nn m a ks)->yx v n (.mk k x nn m a ks)/\(ey (Tre.mk k x nn m a ks).kind=true->JP v n (.mk k x nn m a ks)):=by
    intro hf h5 h9 hfn
    exact ⟨HY hv hL hs h5 h9 (by rw [show (Tre.mk k x nn m a ks).kind=k from rfl,hf]; exact hfn),fun _=>hfn⟩
   rcases hk with rfl | hk | rfl | hk | rfl | rfl | rfl | rfl | rfl | rfl | rfl | rfl | rfl | hk | rfl | rfl | rfl | hk | rfl | rfl | hk | rfl | rfl | rfl
   . obtain rfl:(⟨true,false,false,[⟨.type,1,1⟩]⟩:fQ)=fo:=by simpa [bw] using eX
     obtain ⟨A,rfl,hA⟩:=lY g2
     exact via 192 rfl (by decide) (by decide) rfl (Ju hv hL hA (f2 rfl).2 (f2 rfl).1 hs hp)
   . have od:fo=⟨true,false,false,[⟨.kind 5,0,900⟩,⟨.base,1,1⟩,⟨.term,1,1⟩]⟩:=by rcases hk with rfl | rfl <;> simpa [bw] using eX.symm
     subst od
     obtain ⟨ps,B,C,rfl,_,_,hB,_⟩:=xg (by omega) g2
     have hB:ey B.kind=true:=by
      have h:jb B.kind=true:=hB
      unfold jb at h; unfold ey
      rw [da] at h ⊢; omega
     have hf:qu k=192:=by rcases hk with rfl | rfl <;> rfl
     have ht:ey k=false:=by rcases hk with rfl | rfl <;> rfl
     exact via 192 hf (by omega) (by omega) ht (Tc hv hL hk (by simp at jQ; omega) hB (f2 rfl).2 (f2 rfl).1 hs hp)
   . obtain rfl:(⟨true,false,false,[⟨.type,1,1⟩]⟩:fQ)=fo:=by simpa [bw] using eX
     obtain ⟨A,rfl,hA⟩:=lY g2
     exact ⟨Mh hv hL hA (f2 rfl).2 (f2 rfl).1 hs hp,fun h=>by cases h⟩
   . have od:fo=⟨false,true,false,[]⟩:=by rcases hk with rfl | rfl <;> simpa [bw] using eX.symm
     subst od
     obtain rfl:=nil g2
     have hf:qu k=194:=by rcases hk with rfl | rfl <;> rfl
     exact abi hf (by omega) (by omega) (OU hv hL hk f3 hs)
   . obtain rfl:(⟨false,false,false,[⟨.base,2,900⟩]⟩:fQ)=fo:=by simpa [bw] using eX
     obtain ⟨hl,hc⟩:=F6 g2
     obtain ⟨ps,B,rfl⟩:=ly (l:=ks) (by omega)
     have hB:ey B.kind=true:=by
      have h:jb B.kind=true:=hc B (by simp)
      unfold jb at h; unfold ey
      rw [da] at h ⊢; omega
     exact abi rfl (by decide) (by decide) (Mi hv hL (by simp at jQ; omega) hB hs hp)
   . exact ⟨Tb hv hL jQ hs hp,fun h=>by cases h⟩
   . obtain rfl:(⟨false,false,false,[⟨.term,3,3⟩]⟩:fQ)=fo:=by simpa [bw] using eX
     obtain ⟨A,B,C,rfl,hA,hB,hC⟩:=U7 g2
     exact via 197 rfl (by decide) (by decide) rfl (WV hv hL hs hp)
   . obtain rfl:(⟨false,false,false,[⟨.term,2,2⟩]⟩:fQ)=fo:=by simpa [bw] using eX
     obtain ⟨A,B,rfl,hA,hB⟩:=xf g2
     exact via 197 rfl (by decide) (by decide) rfl (Ml hv hL hs hp)
   . obtain rfl:(⟨false,false,false,[⟨.term,2,2⟩]⟩:fQ)=fo:=by simpa [bw] using eX
     obtain ⟨A,B,rfl,hA,hB⟩:=xf g2
     exact via 197 rfl (by decide) (by decide) rfl (Jv hv hL hs hp)
   . obtain rfl:(⟨true,true,true,[⟨.term,1,1⟩]⟩:fQ)=fo:=by simpa [bw] using eX
     obtain ⟨A,rfl,hA⟩:=lY g2
     exact via 197 rfl (by decide) (by decide) rfl (Td hv hL (f2 rfl).2 (f2 rfl).1 f3 f4 hs hp)
   . obtain rfl:(⟨true,false,false,[⟨.term,2,2⟩]⟩:fQ)=fo:=by simpa [bw] using eX
     obtain ⟨A,B,rfl,hA,hB⟩:=xf g2
     exact via 197 rfl (by decide) (by decide) rfl (Mj hv hL (f2 rfl).2 (f2 rfl).1 hs hp)
   . obtain rfl:(⟨true,true,false,[⟨.term,1,1⟩]⟩:fQ)=fo:=by simpa [bw] using eX
     obtain ⟨A,rfl,hA⟩:=lY g2
     exact via 197 rfl (by decide) (by decide) rfl (Jw hv hL (f2 rfl).2 (f2 rfl).1 f3 hs hp)
   . obtain rfl:(⟨true,false,false,[⟨.term,1,1⟩]⟩:fQ)=fo:=by simpa [bw] using eX
     obtain ⟨A,rfl,hA⟩:=lY g2
     exact via 197 rfl (by decide) (by decide) rfl (Te hv hL (f2 rfl).2 (f2 rfl).1 hs hp)
   . have od:fo=⟨false,false,false,[⟨.term,2,2⟩]⟩:=by
      rcases hk with rfl | rfl | rfl | rfl | rfl | rfl | rfl <;> simpa [bw] using eX.symm
     subst od
     obtain ⟨A,B,rfl,hA,hB⟩:=xf g2
     rcases hk with rfl | rfl | rfl | rfl | rfl | rfl | rfl
     . exact via 198 rfl (by decide) (by decide) rfl (pJ hv hL (w:=B3) (lf:=2) (rt:=3) (by simp) hs hp)
     . exact via 198 rfl (by decide) (by decide) rfl (pJ hv hL (w:=xX) (lf:=3) (rt:=4) (by simp) hs hp)
     . exact via 198 rfl (by decide) (by decide) rfl (pJ hv hL (w:=iJ) (lf:=6) (rt:=6) (by simp) hs hp)
     . exact via 198 rfl (by decide) (by decide) rfl (pJ hv hL (w:=rF) (lf:=6) (rt:=6) (by simp) hs hp)
     . exact via 198 rfl (by decide) (by decide) rfl (pJ hv hL (w:=rD) (lf:=6) (rt:=7) (by simp) hs hp)
     . exact via 198 rfl (by decide) (by decide) rfl (pJ hv hL (w:=qA) (lf:=6) (rt:=7) (by simp) hs hp)
     . exact via 198 rfl (by decide) (by decide) rfl (pJ hv hL (w:=sY) (lf:=7) (rt:=8) (by simp) hs hp)
   . obtain rfl:(⟨false,false,false,[⟨.term,1,1⟩]⟩:fQ)=fo:=by simpa [bw] using eX
     obtain ⟨A,rfl,hA⟩:=lY g2
     exact via 198 rfl (by decide) (by decide) rfl (Tf hv hL hs hp)
   . obtain rfl:(⟨false,true,false,[⟨.term,1,1⟩]⟩:fQ)=fo:=by simpa [bw] using eX
     obtain ⟨A,rfl,hA⟩:=lY g2
     exact via 198 rfl (by decide) (by decide) rfl (WW hv hL f3 hs hp)
   . obtain rfl:(⟨false,true,false,[]⟩:fQ)=fo:=by simpa [bw] using eX
     obtain rfl:=nil g2
     exact via 199 rfl (by decide) (by decide) rfl (Th hv hL f3 hs)
   . have od:fo=⟨false,false,false,[]⟩:=by rcases hk with rfl | rfl | rfl | rfl <;> simpa [bw] using eX.symm
     subst od
     obtain rfl:=nil g2
     rcases hk with rfl | rfl | rfl | rfl
     . exact via 199 rfl (by decide) (by decide) rfl (uI hv hL (w:=gz) (by simp) hs)
     . exact via 199 rfl (by decide) (by decide) rfl (uI hv hL (w:=gp) (by simp) hs)
     . exact via 199 rfl (by decide) (by decide) rfl (uI hv hL (w:=jM) (by simp) hs)
     . exact via 199 rfl (by decide) (by decide) rfl (uI hv hL (w:=lE) (by simp) hs)
   . obtain rfl:(⟨true,false,false,[]⟩:fQ)=fo:=by simpa [bw] using eX
     obtain rfl:=nil g2
     exact via 199 rfl (by decide) (by decide) rfl (OW hv hL (f2 rfl).2 (f2 rfl).1 hs)
   . obtain rfl:(⟨true,false,false,[]⟩:fQ)=fo:=by simpa [bw] using eX
     obtain rfl:=nil g2
     exact via 199 rfl (by decide) (by decide) rfl (Tg hv hL (f2 rfl).2 (f2 rfl).1 hs)
   . have od:fo=⟨true,false,false,[]⟩:=by rcases hk with rfl | rfl <;> simpa [bw] using eX.symm
     subst od
     obtain rfl:=nil g2
     have hf:qu k=199:=by rcases hk with rfl | rfl <;> rfl
     have ht:ey k=false:=by rcases hk with rfl | rfl <;> rfl
     exact via 199 hf (by omega) (by omega) ht (OX hv hL hk (f2 rfl).2 (f2 rfl).1 hs)
   . obtain rfl:(⟨true,false,false,[⟨.arg,1,900⟩]⟩:fQ)=fo:=by simpa [bw] using eX
     exact via 199 rfl (by decide) (by decide) rfl (OV hv hL jQ (f2 rfl).2 (f2 rfl).1 hs hp)
   . obtain rfl:(⟨false,false,false,[⟨.kind 37,1,900⟩,⟨.term,1,1⟩]⟩:fQ)=fo:=by simpa [bw] using eX
     obtain ⟨ps,B,rfl,hl,_,hB⟩:=CJ (by omega) g2
     exact via 199 rfl (by decide) (by decide) rfl (WX hv hL (by simp at jQ; omega) hs hp)
   . obtain rfl:(⟨false,false,false,[⟨.term,1,1⟩,⟨.kind 37,1,1⟩,⟨.term,1,1⟩]⟩:fQ)=fo:=by simpa [bw] using eX
     obtain ⟨A,B,C,rfl,hA,hB,hC⟩:=Kw g2
     have hBo:=g3 B (by simp)
     have aeb:B.kind=37:=of_decide_eq_true hB
     obtain ⟨b1,b2,b3⟩:B.pr=[dM B.text]/\fA B.text=true/\B.text ≠ []:=by
      cases B with
      | mk k' x' n' m' a' ks' =>
        obtain rfl:k'=37:=aeb
        obtain ⟨fo',ael,Uz,_,_⟩:=Tre.xm hBo
        obtain rfl:(⟨true,false,false,[]⟩:fQ)=fo':=by simpa [bw] using ael
        obtain ⟨_,q2,_⟩:=oc Uz
        exact ⟨by rw [Tre.c6]; rfl,(q2 rfl).2,(q2 rfl).1⟩
     exact via 199 rfl (by decide) (by decide) rfl (Jx hv hL b1 b2 b3 hs hp)
theorem Fj:∀ (N:Nat) (s:Tre) (n:Nat),s.flat.length <= N->cQ L n s->s.flat.length <= 900->s.ok=true->s.kind ≠ 1->yx v n s/\(ey s.kind=true->JP v n s)
 | 0,s,n,hN,_,_,_,_=>by have:=s.du; omega
 | N+1,s,n,hN,hs,h9,ho,h1=>by
   have hk:=vZ ho
   have yZ:=jm s
   refine W3 hv hL hs h9 ho h1 ⟨fx _ _,fun i q t hq ht=>?_⟩
   obtain ⟨u,hu,CD⟩:=lA hs.kids hq
   rw [ht] at hu
   obtain rfl:t=u:=by simpa using hu
   have hm:=fl ht
   have aM:=Tre.zi hm
   obtain ⟨k1,k2⟩:=hk t hm
   obtain ⟨x,hx,nq,_,N0,_⟩:=CD.lR
   obtain ⟨r1,r2⟩:=Fj N t q (by omega) CD (by omega) k2 k1
   exact ⟨r1,r2,x,hx,nq,N0⟩
end
end Go.Rip
namespace Go.Rip
open Go.Proofs Go.RowKit
theorem Jz (a b:Tk):Pure K 201 [.agg (lB a),.agg (lB b)] (.bool (nh (tx a) (tx b))):=by
 refine Pure.of rfl rfl (fun U=>rfl) fun R hR=>?_
 refine QJ ?_
 unfold QI
 rw [fg rfl]
 intro b2 mD
 have m2:((bJ ⟨.e,0⟩).new b2 (.box (aC (.agg (lB a))))).box b2=some (lB a):=aS
 generalize (bJ _).new b2 _=aw at *
 rw [fg rfl]
 intro b3 pc
 have m3:(aw.new b3 (.box (aC (.agg (lB b))))).box b3=some (lB b):=aS
 have m2:=(bE pc (x:=.box (aC (.agg (lB b))))).bo m2
 generalize aw.new b3 _=aQ at *
 have e1:∀ n:Nat,decide ((n:Int)=4)=(n == 4):=fun n=>by
  rw [o3,da,beq_iff_eq]; omega
 have e2:∀ s t:aY,decide (s=t)=(s == t):=fun s t=>by
  by_cases h:s=t <;> simp [h]
 have rP:∀ r,r=nh (tx a) (tx b)->∀ af,R (.ret (.bool r)) af:=fun r h=>by subst h; exact hR
 unfold nh at rP
 have ha:(tx a).1=a.k/\(tx a).2=a.s:=⟨rfl,rfl⟩
 have hb:(tx b).1=b.k/\(tx b).2=b.s:=⟨rfl,rfl⟩
 rw [ha.1,ha.2,hb.1,hb.2] at rP
 have rest:∀ v12,v12=AV.bool (a.k != 4 && b.k != 4) ->
  ad K (ar v12 false) (ae (some 1) (.box b2 0)) (fun bK =>
  ad K (ar v12 false) (ah (some (false,1)) bK aQ) (fun bj =>
  ad K (ar v12 false) (ai .eql (BT.mk false false false none false) true bj (AV.str eD)) (fun cA =>
  ad K (ar v12 false) (ay.val cA) (fun bW =>
  ad K (ar bW true) (ae (some 1) (.box b3 0)) (fun bY =>
  ad K (ar bW true) (ah (some (false,1)) bY aQ) (fun bS =>
  ad K (ar bW true) (ai .eql (BT.mk false false false none false) true bS (AV.str iJ)) (fun v20 =>
  ad K (ar v12 false) (aO bW v20 (AV.bool false)) (fun v21 =>
  (aO v12 (AV.bool true) v21).wp K aQ (fun cw U =>
  aj R cw U) (aa R))))))))):=by
  rintro v12 rfl
  cases h0:(a.k != 4 && b.k != 4) with
  | true =>
    refine jt rfl (jt rfl (jt rfl (jt rfl (jt rfl (jt rfl (jt rfl (jt rfl (Ef (aj.mk (rP _ ?_ _))))))))))
    rw [h0]; rfl
  | false =>
    rw [h0,Bool.false_or] at rP
    refine F2 rfl m2 rfl (sA rfl ?_)
    rw [fX,ax,e2]
    cases h1:(a.s == eD) with
    | true =>
      rw [h1,Bool.true_and] at rP
      refine uG rfl rfl (F2 rfl m3 rfl (sA rfl ?_))
      rw [fX,ax,e2]
      exact sA rfl (BJ (B4 (aj.mk (rP _ rfl _))))
    | false =>
      rw [h1,Bool.false_and] at rP
      refine uG rfl rfl (jt rfl (jt rfl (jt rfl (sA rfl (aaA (B4 (aj.mk (rP _ rfl _))))))))
 refine fe (dj m2 rfl ?_)
 rw [cg,al,e1]
 cases h1:(a.k == 4) with
 | true =>
   refine jt rfl (jt rfl (jt rfl (B4 (rest _ ?_))))
   simp only [bne,h1,cn,Bool.false_and]
 | false =>
   refine F2 rfl m3 rfl (sA rfl ?_)
   rw [cg,ax,e1]
   refine Ef (rest _ ?_)
   simp only [bne,h1,dx,Bool.true_and]
section
variable {U af:St} {vl:AV} {L:List Tk} {R:cO->St->Prop}
theorem BU {i:Nat} {x:Tk} (h:L[i]?=some x):∃ r,(eP L).drop (i * 3)=lB x++r:=by
 rw [FD,fU (de.1 h).1]
 refine ⟨eP (L.drop (i+1)),?_⟩
 have:=(de.1 h).2
 simp [eP,this]
theorem aft {i:Nat} {x:Tk} {K':AV->St->Prop} {Kp:AV->St->Prop} (hv:cB vl L.length (eP L)) (hx:L[i]?=some x) (hk:K' (.agg (lB x)) U) :
 (au (some (51,3)) none vl (.int .i64 (i:Nat))).wp K U (fun p U=>(ah (some (true,3)) p U).wp K U K' Kp) Kp:=by
 have aM:=(de.1 hx).1
 obtain ⟨r,hr⟩:=BU hx
 rcases hv with ⟨h1,_,_⟩ | ⟨c,rfl⟩
 . omega
 . rw [ua,dL,hr]
   refine ⟨by omega,?_⟩
   rw [rh]
   exact ⟨by simp [lB],hk⟩
theorem adL {i:Nat} {x:Tk} {K':AV->St->Prop} {Kp:AV->St->Prop} (hv:cB vl L.length (eP L)) (hx:L[i]?=some x) (hk:K' (.str x.s) U) :
 (au (some (51,3)) none vl (.int .i64 (i:Nat))).wp K U (fun p U=>(ae (some 1) p).wp K U (fun q U=>(ah (some (false,1)) q U).wp K U K' Kp) Kp) Kp:=by
 have aM:=(de.1 hx).1
 obtain ⟨r,hr⟩:=BU hx
 rcases hv with ⟨h1,_,_⟩ | ⟨c,rfl⟩
 . omega
 . rw [ua,dL,hr]
   refine ⟨by omega,?_⟩
   simp only [dB,al]
   rw [mB]
   exact hk
theorem Zr {i:Nat} {x:Tk} {gv:AV} {k:AV->Prop} (hg:gv=.bool true) (hv:cB vl L.length (eP L)) (hx:L[i]?=some x) (hk:k (.agg (lB x))) :
 ad K gv (au (some (51,3)) none vl (.int .i64 (i:Nat))) fun p=>ad K gv (ah (some (true,3)) p U) k:=by
 have aM:=(de.1 hx).1
 obtain ⟨r,hr⟩:=BU hx
 subst hg
 simp only [aB,bq]
 rcases hv with ⟨h1,_,_⟩ | ⟨c,rfl⟩
 . omega
 . rw [Me,dL,hr]
   refine ⟨by omega,?_⟩
   rw [DY]
   exact ⟨by simp [lB],hk⟩
theorem Tm (hv:cB vl L.length (eP L)) (ho:∀ x ∈ L,l9 (tx x)) (hl:L.length <= 1000000) (h:R (.ret (.int .i64 (if 900 < L.length then 5 else 0))) U):ag K 200 [vl] U R:=by
 refine QH ?_
 unfold QG
 rw [hv.len,al,cx,al]
 refine cu (fun h9=>?_) fun h9=>?_
 . rw [if_pos (by omega)] at h
   exact aj.mk h
 rw [if_neg (by omega)] at h
 refine ⟨fun m w0 w3 af=>∃ i:Nat,m=L.length - i/\i <= L.length/\w0=vl/\w3=.int .i64 (i:Nat)/\af=U,⟨_,0,rfl,by omega,rfl,rfl,rfl⟩,?_⟩
 rintro m w0 w3 af ⟨i,rfl,hi,rfl,rfl,rfl⟩
 rw [hv.len,al,a7,al]
 refine cu (fun aM=>?_) fun gq=>aj.mk h
 have aM:i < L.length:=by omega
 obtain ⟨x,hx⟩:∃ x,L[i]?=some x:=⟨L[i],by simp [aM]⟩
 have EJ:=ho x (fl hx)
 have vR:=qZ EJ
 have hp:=zg x.k x.s x.at_ (by have:x.s.length <= 12:=vR; omega)
 have hd:decide (x.s ≠ []/\e8 x.s=(0,x.k,x.s))=true:=decide_eq_true ⟨EJ.1,EJ.2⟩
 rw [hd] at hp
 refine aft hv hx (hp.go ?_)
 simp only [dA,al,cn]
 refine bO ?_
 rw [cr]
 exact ⟨aW (by omega) (by omega),L.length - (i+1),by omega,i+1,rfl,by omega,rfl,by simp,rfl⟩
theorem O7 (hv:cB vl L.length (eP L)) (ho:∀ x ∈ L,l9 (tx x)) (hl:L.length <= 1000000) (h:R (.ret (.aG [.str (dG (L.map tx)).1,.int .i64 (dG (L.map tx)).2])) U):ag K 129 [vl] U R:=by
 refine Pq ?_
 unfold Pp
 refine Tm hv ho hl ?_
 rw [bL,cg,al]
 have Kd:(L.map tx).length=L.length:=by simp
 by_cases h9:900 < L.length
 . have hE:dG (L.map tx)=([],5):=by unfold dG; rw [Kd,if_pos h9]
   rw [if_pos h9]
   simp only [show decide ((5:Int)=0)=false from rfl,dx]
   refine ca (aj.mk ?_)
   rw [hE] at h
   exact h
 rw [if_neg h9]
 simp only [bZ,cn]
 refine bO ?_
 have rU:∀ i,(eM ((L.map tx).take i)).length <= 13 * L.length:=fun i=>by
  have:=zU ((L.map tx).take i) fun x hx=>by
   obtain ⟨y,hy,rfl⟩:=List.mem_map.1 (List.mem_of_mem_take hx)
   exact ho y hy
  rw [List.length_take,Kd] at this; omega
 refine ⟨fun m w0 w5 w6 af=>∃ i:Nat,m=L.length - i/\i <= L.length/\w0=vl/\w5=.str (eM ((L.map tx).take i))/\w6=.int .i64 (i:Nat)/\af=U,⟨_,0,rfl,by omega,rfl,rfl,rfl,rfl⟩,?_⟩
 rintro m w0 w5 w6 af ⟨i,rfl,hi,rfl,rfl,rfl,rfl⟩
 rw [hv.len,al,a7,al]
 refine cu (fun aM=>?_) fun gq=>?_
 . have aM:i < L.length:=by omega
   obtain ⟨x,hx⟩:∃ x,L[i]?=some x:=⟨L[i],by simp [aM]⟩
   have ji:(L.map tx)[i]?=some (tx x):=by simp [hx]
   have EJ:=ho x (fl hx)
   have vR:x.s.length <= 12:=qZ EJ
   have hti:=rU i
   intro j hj
   have tail:∀ s:aY,s++x.s=eM ((L.map tx).take (i+1))->s.length <= 100000->j w0 (.str s) (.int .i64 (i:Nat)) af:=by
    intro s e hs
    refine hj _ _ _ _ (adL hv hx ?_)
    rw [jS]
    refine ⟨by omega,?_⟩
    rw [cr]
    exact ⟨aW (by omega) (by omega),L.length - (i+1),by omega,i+1,rfl,by omega,rfl,by rw [e],by simp,rfl⟩
   have jF:(L.map tx).take (i+1)=(L.map tx).take i++[tx x]:=by rw [lM,ji]; rfl
   by_cases sE:i=0
   . subst sE
     refine aay (by omega) (jt rfl (jt rfl (jt rfl (jt rfl (jt rfl (jt rfl (jt rfl (jt rfl (jt rfl (jt rfl (aaA (bO (tail _ ?_ (by omega))))))))))))))
     rw [jF]; simp [eM,tx]
   . obtain ⟨y,hy⟩:∃ y,L[i - 1]?=some y:=⟨L[i - 1]'(by omega),by simp [show i - 1 < L.length by omega]⟩
     have zc:(L.map tx)[i - 1]?=some (tx y):=by simp [hy]
     have hc:(i:Int) - 1=((i - 1:Nat):Int):=by omega
     have oQ:=xO ((L.map tx).take (i - 1)) (tx y) (tx x)
     have ht1:(L.map tx).take (i - 1)++[tx y]=(L.map tx).take i:=by
      have:=lM (l:=L.map tx) (i:=i - 1)
      rw [zc,show i - 1+1=i by omega] at this
      rw [this]; rfl
     have ht2:(L.map tx).take (i - 1)++[tx y,tx x]=(L.map tx).take (i+1):=by rw [jF,<- ht1]; simp
     rw [ht1,ht2] at oQ
     refine aaz (by omega) (uG rfl rfl (uG rfl rfl (sA rfl ?_)))
     rw [Vi,hc]
     refine ⟨aW (by omega) (by omega),Zr rfl hv hy (uG rfl rfl (uG rfl rfl (Zr rfl hv hx (sA rfl (gV (Jz y x) (BJ ?_))))))⟩
     cases G5:nh (tx y) (tx x) with
     | true =>
       rw [G5,if_pos rfl] at oQ
       refine ca ?_
       rw [jS]
       exact ⟨by rw [show MI.length=1 from rfl]; omega,tail _ (by rw [oQ]; rfl) (by rw [cZ,show MI.length=1 from rfl]; omega)⟩
     | false =>
       rw [G5,if_neg (by simp),gw] at oQ
       exact bO (tail _ (by rw [oQ]; rfl) (by omega))
 . have hi:i=L.length:=by omega
   subst hi
   have acv:(L.map tx).take L.length=L.map tx:=by rw [<- Kd,oq]
   rw [acv]
   rw [show br (some true) (AV.str (eM (L.map tx)))=.val (.int .i64 (eM (L.map tx)).length) from rfl,al,cx,al]
   unfold dG at h
   rw [Kd,if_neg h9] at h
   refine cu (fun vJ=>?_) fun vJ=>?_
   . rw [if_pos (by omega)] at h
     exact aj.mk h
   . rw [if_neg (by omega)] at h
     exact aj.mk h
end
end Go.Rip
namespace Go.Rip
open Go.Proofs Go.RowKit
section
variable {v:AV} {L l:List Nd} {s:Tre} {n:Nat}
theorem zK (hv:Sl v L) (hL:L.length <= 1000) (hs:cQ L n s) (h9:s.flat.length <= 900) (ho:s.ok=true) (h1:s.kind ≠ 1):Pure K 66 [v,.int .i64 (n:Nat)] (.aG [.str (dG s.pr).1,.int .i64 (dG s.pr).2]):=by
 have ll:=ON ho
 refine Pure.of (by have:=hv.cl; simp [cK,closed] at this ⊢; exact this) rfl (fun U=>rfl) fun R hR=>?_
 refine TE ?_
 unfold Vy
 obtain ⟨l1,l2⟩:=KM hv
 refine rL [v,.aA] (by simp [sf,aK,l1,l2]) ?_
 rw [fg rfl]
 intro b hb
 have m:((bJ ⟨.e,0⟩).new b (.box (aC (.agg [v,.aA])))).box b=some [v,.aA]:=aS
 have hP:RS b v ((bJ ⟨.e,0⟩).new b (.box (aC (.agg [v,.aA])))) [] ((bJ ⟨.e,0⟩).new b (.box (aC (.agg [v,.aA])))):=⟨⟨.aA,[],rfl,m,fW.nil (sR _)⟩,Fr.refl _ _⟩
 generalize (bJ _).new b _=aw at *
 refine (Fj hv.s hL _ s n (gE _) hs h9 ho h1).1 b aw aw [] _ hP (by unfold NT; simp; omega) fun aQ hQ=>?_
 rw [mw] at hQ
 obtain ⟨⟨vl,L2,e,oO,g⟩,_⟩:=hQ
 rw [bL]
 simp only [eo,al]
 refine fe (dj oO rfl ?_)
 have hl:L2.length=s.pr.length:=by rw [<- e]; simp
 refine O7 g.sl (fun x hx=>Mc _ s (gE _) ho _ (by rw [<- e]; exact List.mem_map_of_mem hx)) (by omega) ?_
 rw [e]
 simp only [bL,bH,List.drop,bN]
 exact aj.mk (hR _)
theorem Xe {t:Tre} (ho:t.ok=true) (hn:n < t.flat.length) (h0:n ≠ 0) (hs:cQ t.flat n s):s.ok=true/\s.kind ≠ 1:=by
 obtain ⟨_,h⟩:=place t hn
 rcases h with h | ⟨i',s',aM,eE,hk⟩
 . exact absurd h h0
 . obtain ⟨q,hq⟩:=List.mem_iff_getElem?.1 hk
   obtain ⟨u,hu,CD⟩:=lA eE.kids hq
   rw [hs.inj CD]
   obtain ⟨k1,k2⟩:=vZ (Dc ho eE) u (fl hu)
   first
    | exact ⟨k2,k1⟩
    | exact ⟨k1,k2⟩
theorem C3 (hv:Sl v l) (hl:l.length <= 1000) (jh:∀ x ∈ l,x.text.length <= 3000) (p:Int):Pure K 29 [.agg [v],.int .i64 p] (.aG [.str (nU l p).1,.int .i64 (nU l p).2]):=by
 refine Pure.of (by simp [cK,hv.cl,show closed (.int .i64 p)=true from rfl]) rfl (fun U=>rfl) fun R hR=>?_
 refine Tu ?_
 unfold Vp
 rw [fg rfl]
 intro b1 gl
 have m1:((bJ ⟨.e,0⟩).new b1 (.box (aC (.agg [v])))).box b1=some [v]:=aS
 generalize (bJ _).new b1 _=aw at *
 refine mX m1 ((R8 hv (by omega) jh p).go (IL ?_))
 by_cases ha:jk l p=0
 rotate_left
 . simp only [ha,cE,dx]
   refine ca (aj.mk ?_)
   have:=hR aw
   rwa [zS ha] at this
 simp only [ha,bZ,cn]
 refine bO ?_
 obtain ⟨n,t,s,rfl,rfl,h1,h2,h3,hs⟩:=Ej ha
 have hc:gY t.flat=0:=Classical.not_not.1 fun hc=>by rw [th hc] at ha; exact hc ha
 have hS:=FA ha hs
 rw [hS] at hR
 have hle:=hs.le
 have EE:t.flat.length <= 900:=by
  refine Nat.le_of_not_lt fun h'=>?_
  have hc:gY t.flat=5:=by unfold gY; rw [if_pos h']
  rw [th (by rw [hc]; decide),hc] at ha; cases ha
 have hn:n < t.flat.length:=by have:=s.du; omega
 rw [cx,al]
 refine cu (fun pE=>?_) fun UR=>?_
 . obtain ⟨ho,oP⟩:=Xe (by simpa using h2) hn (by omega) hs
   have hT:mU s=dG s.pr:=by unfold mU; rw [if_pos oP]
   rw [hT] at hR
   refine fe (dj m1 rfl ((zK hv (by omega) hs (by omega) ho oP).go ?_))
   simp only [bH,List.drop,bN]
   exact aj.mk (hR _)
 have y7:n=0:=by omega
 subst y7
 obtain rfl:s=t:=hs.inj (cQ.whole t)
 obtain ⟨t',e',k1,k2,k9,kd,k24⟩:=M5 hc
 obtain rfl:=Tre.GS e'
 obtain ⟨tC,a,hta⟩:=OO k1 k2 k9
 have hT:mU s=ik s.kids []:=by unfold mU; rw [if_neg (by simp [k1])]
 rw [hT] at hR
 refine fe (dj m1 rfl ?_)
 refine wa (i:=0) (hv.fI _) (cQ.whole s) (by omega) fun aQ vk g=>?_
 rw [bL]
 have m1:=g.ex.bo m1
 have ni:=g.sl
 rw [<- fx (0+1) s.kids] at ni
 have jQ:(aX (0+1) s.kids).length=s.kids.length:=fx _ _
 have ZE:∀ {i k:Nat},(aX (0+1) s.kids)[i]?=some k->∃ u,s.kids[i]?=some u/\cQ s.flat k u:=fun h=>lA (cQ.whole s).kids h
 generalize aX (0+1) s.kids=ks at *
 refine ⟨fun m w2 w7 w8 w9 af=>∃ (i:Nat) (all:aY),m=ks.length - i/\i <= ks.length/\w2=.box b1 0/\w7=.str all/\w8=vk/\w9=.int .i64 (i:Nat)/\af=aQ/\ik s.kids []=ik (s.kids.drop i) all/\all.length <= 2501 * i,⟨_,0,[],rfl,by omega,rfl,rfl,rfl,rfl,rfl,rfl,by simp⟩,?_⟩
 rintro m w2 w7 w8 w9 af ⟨i,all,rfl,hi,rfl,rfl,rfl,rfl,rfl,Bt,Ew⟩
 rw [ni.len,al,a7,al]
 refine cu (fun aM=>?_) fun gq=>?_
 . have aM:i < ks.length:=by omega
   obtain ⟨k,hk⟩:∃ k,ks[i]?=some k:=⟨ks[i],by simp [aM]⟩
   obtain ⟨u,hu,Hs⟩:=ZE hk
   obtain ⟨NU,EI,hu3⟩:=tC u (fl hu)
   have hu4:u.kind ≠ 1:=fun h=>by rw [h] at EI; exact absurd EI (by decide)
   have wO:s.kids.drop i=u::s.kids.drop (i+1):=by
    have e:s.kids[i]'(by omega)=u:=(de.1 hu).2
    rw [<- e,<- fU]
   rw [wO,xN] at Bt
   refine hU (dz m1 rfl (acV ni hk fun D=>?_))
   refine (zK hv (by omega) Hs hu3 NU hu4).go ⟨fun _ _=>rfl,?_⟩
   simp only [bH,List.drop,iE]
   refine IL ?_
   by_cases he:(dG u.pr).2=0
   rotate_left
   . rw [if_pos he] at Bt
     simp only [he,cE,dx]
     refine ca (aj.mk ?_)
     have:=hR af
     rwa [Bt] at this
   rw [if_neg (by simp [he])] at Bt
   simp only [he,bZ,cn]
   refine bO ?_
   obtain ⟨e1,_,e2⟩:=FC he
   rw [jS]
   refine ⟨by rw [e1,show mW.length=1 from rfl]; omega,?_⟩
   rw [jS]
   refine ⟨by rw [e1,cZ,show mW.length=1 from rfl]; omega,?_⟩
   rw [cr]
   refine ⟨aW (by omega) (by omega),ks.length - (i+1),by omega,i+1,_,rfl,by omega,rfl,rfl,rfl,by simp,rfl,?_,?_⟩
   . rw [Bt,<- kI]; rfl
   . rw [e1,cZ,cZ,show mW.length=1 from rfl]; omega
 . have wO:s.kids.drop i=[]:=List.drop_eq_nil_of_le (by omega)
   rw [wO,ik] at Bt
   rw [Bt] at hR
   rw [show br (some true) (AV.str all)=.val (.int .i64 all.length) from rfl,al,cx,al]
   refine cu (fun vJ=>?_) fun vJ=>?_
   . rw [if_pos (by omega)] at hR
     exact aj.mk (hR _)
   . rw [if_neg (by omega)] at hR
     exact aj.mk (hR _)
theorem JF (hv:Sl v l) (hl:l.length <= 1000) (jh:∀ x ∈ l,x.text.length <= 3000):Pure K 27 [.agg [v]] (.aG [.str (nU l 0).1,.int .i64 (nU l 0).2]):=by
 refine Pure.of (by simp [cK,hv.cl]) rfl (fun U=>rfl) fun R hR=>?_
 refine Ts ?_
 unfold Vn
 rw [fg rfl]
 intro b1 gl
 have m1:((bJ ⟨.e,0⟩).new b1 (.box (aC (.agg [v])))).box b1=some [v]:=aS
 generalize (bJ _).new b1 _=aw at *
 refine mX m1 ((C3 hv hl jh 0).go ?_)
 simp only [bH,List.drop,bN]
 exact aj.mk (hR _)
theorem Jt (hv:Sl v l) (p:Int):Pure K 4 [.agg [v],.int .i64 p] (.bool true):=by
 refine Pure.of (by simp [cK,hv.cl,show closed (.int .i64 p)=true from rfl]) rfl (fun U=>rfl) fun R hR=>?_
 refine W7 ?_
 unfold aaR
 rw [fg rfl]
 intro b1 gl
 have m1:((bJ ⟨.e,0⟩).new b1 (.box (aC (.agg [v])))).box b1=some [v]:=aS
 generalize (bJ _).new b1 _=aw at *
 refine mX m1 ((RP hv).go ?_)
 simp only [dA,al]
 cases ht:rA l with
 | false =>
   simp only [dx]
   exact ca (B9.go (aj.mk (hR _)))
 | true =>
 simp only [cn]
 refine bO ?_
 obtain ⟨hl,jh⟩:=zT.1 ht
 have jh:∀ x ∈ l,x.text.length <= 3000:=fun x hx=>by have:=jh x hx; omega
 have cl:=M6 hv (by omega)
 have cv:=Ky l
 refine mX m1 (cl.go ((Md cv hl jh).go ?_))
 simp only [bH,List.drop,bN]
 refine mX m1 ((JF hv hl jh).go ?_)
 simp only [bH,List.drop,bN]
 refine mX m1 (cl.go ((FB cv hl jh p).go ?_))
 simp only [bH,List.drop,bN]
 refine mX m1 ((C3 hv hl jh p).go ?_)
 simp only [bH,List.drop,bN]
 rw [CZ m1]
 refine ⟨by simp,?_⟩
 rw [CZ m1]
 refine ⟨by simp,?_⟩
 refine cl.go ⟨fun _ _=>rfl,(Cd cv.s cv.c (by omega) jh).go ⟨fun _ _=>rfl,?_⟩⟩
 refine JW (hv.fI _) (by omega) (fun x hx=>by have:=jh x hx; omega) fun aQ e1=>?_
 rw [bL]
 refine ⟨fun b hb=>?_,?_⟩
 . simp only [dK,gw,fN,cF,List.not_mem_nil,or_false,or_self] at hb
   subst hb
   cases e:aw.live b with
   | none=>simp [St.box,e] at m1
   | some x=>exact e1 b x e
 refine zA rfl (uG rfl rfl (uG rfl rfl (sA rfl (zA rfl (BJ (uG rfl rfl (uG rfl rfl (sA rfl (OS rfl (BJ (uG rfl rfl (uG rfl rfl (sA rfl (zA rfl (BJ (uG rfl rfl (uG rfl rfl (sA rfl (OS rfl (BJ (sA rfl (gV B9 (BJ (aj.mk (hR _)))))))))))))))))))))))))
end
end Go.Rip
