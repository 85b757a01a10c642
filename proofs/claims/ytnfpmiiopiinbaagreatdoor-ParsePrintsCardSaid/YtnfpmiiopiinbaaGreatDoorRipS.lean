/- Lemmas for the proof: no conditions. -/
import Derived.Test.YtnfpmiiopiinbaaGreatDoorRipZz
import Derived.Test.YtnfpmiiopiinbaaGreatDoorRipQ
import Derived.Test.YtnfpmiiopiinbaaGreatDoorRipK
import Derived.Test.YtnfpmiiopiinbaaGreatDoorRipF
import Derived.Test.YtnfpmiiopiinbaaGreatDoorRipP
import Derived.Test.YtnfpmiiopiinbaaGreatDoorRipI
import Derived.Test.YtnfpmiiopiinbaaGreatDoorRipG
set_option linter.unusedVariables false
set_option linter.unusedSimpArgs false
set_option linter.loopingSimpArgs false
namespace Go.Rip
open Go.Proofs Go.RowKit
def rr (X:Rx) (i:Nat) (bad:Bool):List AV:=[X.tv,.int .i64 i,.bool bad]
section
variable {X:Rx} {r i:Nat} {bad:Bool} {U:St} {R:cO->St->Prop}
theorem jt {k:AV->Prop} {r:ay} {gv:AV} (hg:gv=.bool false) (h:k (.aG [])):ad K gv r k:=by rw [hg,aB,aZ]; exact h
theorem BJ {k:AV->Prop} {x y:AV} (h:k x):aF K (aO (.bool true) x y) k:=h
theorem aaA {k:AV->Prop} {x y:AV} (h:k y):aF K (aO (.bool false) x y) k:=h
theorem uG {k:AV->Prop} {r:ay} {gv v:AV} (hg:gv=.bool true) (hr:r=.val v) (h:k v):ad K gv r k:=by rw [hg,hr]; exact h
end
end Go.Rip
namespace Go.Rip
open Go.Proofs Go.RowKit
def kn (U:St) (v:AV) (ns:List Nd):Prop:=((v=.aA/\ns=[])\/∃ c,v=.vec ns.length c (c8 ns))\/∃ b,v=.ms b 0 ns.length 6 43/\U.box b=some (c8 ns)
theorem kn.src {U:St} {v:AV} {ns:List Nd} (h:kn U v ns):pL U v=some (ns.length,c8 ns):=by
 rcases h with (⟨rfl,rfl⟩ | ⟨c,rfl⟩) | ⟨b,rfl,hb⟩
 . rfl
 . rfl
 . simp only [pL,hb,dQ]
   rw [o4 (by rw [u6]; omega)]
theorem kn.qG {U af:St} {v:AV} {ns:List Nd} (h:kn U v ns) (e:dD U af):kn af v ns:=by
 rcases h with h | ⟨b,h1,h2⟩
 . exact .inl h
 . exact .inr ⟨b,h1,e.bo h2⟩
theorem kn.eF {U:St} {v:AV} {ns:List Nd} (h:kn U v ns):v.eF=true/\aC v=[v]:=by
 rcases h with (⟨rfl,rfl⟩ | ⟨c,rfl⟩) | ⟨b,rfl,hb⟩ <;> exact ⟨rfl,rfl⟩
section
variable {U:St} {R:cO->St->Prop}
end
end Go.Rip
namespace Go.Rip
open Go.Proofs Go.RowKit
theorem kn.len {U:St} {v:AV} {l:List Nd} (h:kn U v l):br (some false) v=.val (.int .i64 l.length):=by
 rcases h with (⟨rfl,rfl⟩ | ⟨c,rfl⟩) | ⟨b,rfl,hb⟩ <;> rfl
theorem kn.nd {U:St} {v:AV} {l:List Nd} {i:Nat} {x:Nd} {k:AV->Prop} (h:kn U v l) (hx:l[i]?=some x) (hk:k (.agg (cM x))) :
 aF K (au (some (43,6)) none v (.int .i64 (i:Nat))) fun p=>aF K (ah (some (true,6)) p U) k:=by
 have aM:=(de.1 hx).1
 obtain ⟨r,hr⟩:=wc hx
 rcases h with (⟨rfl,rfl⟩ | ⟨c,rfl⟩) | ⟨b,rfl,hb⟩
 . simp at aM
 . rw [Me,dL,hr,DY]
   refine ⟨by omega,by simp [cM],?_⟩
   simpa [cM] using hk
 . rw [Ge,CZ hb,dL,dI,hr]
   refine ⟨⟨by omega,by omega,rfl⟩,by simp [cM],?_⟩
   simpa [cM] using hk
end Go.Rip
namespace Go.Rip
open Go.Proofs Go.RowKit
theorem Bp {L:List AV} {o:Nat} {c:AV} (h:L[o]?=some c) (r:List AV):∃ r',(L++r).drop o=c::r':=by
 have aM:=(de.1 h).1
 rw [List.drop_append_of_le_length (by omega),fU aM]
 have:=(de.1 h).2
 rw [this]
 exact ⟨_,rfl⟩
section
variable {U:St} {v:AV} {l:List Nd} {i o:Nat} {x:Nd} {c gv:AV} {k:AV->Prop} {K':AV->St->Prop} {Kp:AV->St->Prop}
theorem sw (h:kn U v l) (hx:l[i]?=some x) (hc:(cM x)[o]?=some c) (hk:K' c U) :
 (au (some (43,6)) none v (.int .i64 (i:Nat))).wp K U (fun p U=>(ae (some o) p).wp K U (fun q U=>(ah (some (false,1)) q U).wp K U K' Kp) Kp) Kp:=by
 have aM:=(de.1 hx).1
 obtain ⟨r,hr⟩:=wc hx
 obtain ⟨r',tG⟩:=Bp hc r
 rcases h with (⟨rfl,rfl⟩ | ⟨cp,rfl⟩) | ⟨b,rfl,hb⟩
 . simp at aM
 . rw [ua,dL,hr]
   refine ⟨by omega,?_⟩
   simp only [dB,al,mB,tG,bN]
   exact hk
 . rw [AE,dL,dI]
   refine ⟨⟨by omega,by omega,rfl⟩,?_⟩
   simp only [ct,al]
   rw [iZ hb,<- List.drop_drop,hr,tG,bN]
   exact hk
theorem Mf (h:kn U v l) (hx:l[i]?=some x) (hc:(cM x)[o]?=some c) (hk:k c) :
 aF K (au (some (43,6)) none v (.int .i64 (i:Nat))) fun p=>aF K (ae (some o) p) fun q=>aF K (ah (some (false,1)) q U) k:=by
 have aM:=(de.1 hx).1
 obtain ⟨r,hr⟩:=wc hx
 obtain ⟨r',tG⟩:=Bp hc r
 rcases h with (⟨rfl,rfl⟩ | ⟨cp,rfl⟩) | ⟨b,rfl,hb⟩
 . simp at aM
 . rw [Me,dL,hr]
   refine ⟨by omega,?_⟩
   simp only [dB,ax,oo,tG,iE]
   exact hk
 . rw [Ge,dL,dI]
   refine ⟨⟨by omega,by omega,rfl⟩,?_⟩
   simp only [ct,ax]
   rw [tQ hb,<- List.drop_drop,hr,tG,iE]
   exact hk
theorem jn {r:ay} (h:aF K r k):ad K (.bool true) r k:=by rw [aB,bq]; exact h
theorem SD (h:kn U v l) (hx:l[i]?=some x) (hc:(cM x)[o]?=some c) (hk:k c) :
 ad K (.bool true) (au (some (43,6)) none v (.int .i64 (i:Nat))) fun p=>ad K (.bool true) (ae (some o) p) fun q=>ad K (.bool true) (ah (some (false,1)) q U) k:=by
 simp only [aB,bq]
 exact Mf h hx hc hk
theorem UB (h:kn U v l) (hk:k (.int .i64 l.length)):ad K (.bool true) (br (some false) v) k:=by
 rw [h.len]; exact hk
theorem dU {x:AV} (hk:k x):ad K (.bool true) (.val x) k:=hk
end
structure fW (aw U:St) (v:AV) (e:TypeId) (sz n:Nat) (l:List AV):Prop where
 g:Grow U v e sz n l
 z:n=0->v=.aA
 t:Xt aw v
 ex:dD aw U
section
variable {aw U:St} {v y:AV} {e:TypeId} {sz n m:Nat} {l l2:List AV} {K':AV->St->Prop} {Kp:AV->St->Prop}
theorem fW.nil (h:dD aw U):fW aw U .aA e sz 0 []:=⟨.inl ⟨rfl,rfl,rfl⟩,fun _=>rfl,(fun _ _ _ e=>by cases e),h⟩
theorem fW.mono {af:St} (h:fW aw U v e sz n l) (k:dD U af):fW aw af v e sz n l:=by
 refine ⟨?_,h.z,h.t,h.ex.trans k⟩
 rcases h.g with g | ⟨τ,r1,r2,r3⟩
 . exact .inl g
 . exact .inr ⟨τ,r1,k.tok r2,r3⟩
theorem wx (h:fW aw U v e sz n l) (hy:pL U y=some (m,l2)) (hl:l2.length=m * sz) (hm:0 < m) (hb:n+m <= 4294967296)
 (hk:∀ af v',fW aw af v' e sz (n+m) (l++l2)->(∀ b x,(∀ n l,v ≠ .vec n (.own b) l)->U.live b=some x->af.live b=some x)->K' v' af):(eu (some (e,sz)) false v y U).wp K U K' Kp:=by
 refine Dr h.g hy hl hm hb h.z fun af v' g e1 n1=>hk af v' ⟨g,fun hz=>by omega,fun n' τ l' hv=>?_,fun b x hx=>?_⟩ e1
 . rcases n1 n' τ l' hv with hz | ⟨n2,l2',hx⟩
   . exact h.ex.fresh hz
   . exact h.t _ _ _ hx
 . exact e1 b x (fun n' l' hv=>by rw [h.t _ _ _ hv] at hx; cases hx) (h.ex b x hx)
theorem fW.sl (h:fW aw U v e sz n l):cB v n l:=by
 rcases h.g with ⟨h1,h2,h3⟩ | ⟨τ,r1,_,_⟩
 . exact .inl ⟨h1,h2,h3⟩
 . exact .inr ⟨_,r1⟩
theorem Ds {e:TypeId} {x:AV} {z:AV} (hx:x.eF=true) (hc:aC x=[x]) (hk:K' (.vec 1 .full [x]) U):(aJ (some (e,1)) (some [z]) 1 false [(0,x)]).wp K U K' Kp:=by
 rw [jo]
 refine ⟨by omega,?_⟩
 rw [iY (o:=0) (s:=1) rfl]
 refine ⟨⟨hx,by rw [hc]; rfl,by simp [cN]⟩,?_⟩
 rw [kY,hc]
 exact ⟨rfl,hk⟩
end
def cX (ks:List Nat):List AV:=ks.map fun k=>.int .i64 (k:Nat)
theorem N7 (ks:List Nat):(cX ks).length=ks.length:=by simp [cX]
theorem tI {ks:List Nat} {i k:Nat} (h:ks[i]?=some k):∃ r,(cX ks).drop i=.int .i64 (k:Nat)::r:=by
 have aM:=(de.1 h).1
 refine ⟨(cX ks).drop (i+1),?_⟩
 rw [fU (by simpa [cX] using aM)]
 have:=(de.1 h).2
 simp [cX,this]
theorem zp (x:Nd):(cM x)[5]?=some (.int .i64 x.size):=rfl
theorem LV (x:Nd):(cM x)[0]?=some (.int .u8 x.kind):=rfl
theorem wa {U:St} {R:cO->St->Prop} {v:AV} {l:List Nd} {i:Nat} {t:Tre} (hv:kn U v l) (ht:cQ l i t) (hl:l.length <= 100000)
 (h:∀ af v',fW U af v' 3 1 t.kids.length (cX (aX (i+1) t.kids))->R (.ret v') af):ag K 67 [v,.int .i64 (i:Nat)] U R:=by
 refine TF ?_
 unfold Vz
 have hle:=ht.le
 have yZ:=jm t
 rw [cr]
 refine ⟨aW (by omega) (by omega),?_⟩
 obtain ⟨x,hx,_,NR,_⟩:=ht.lR
 refine ⟨fun m v0 v1 v5 v6 af=>∃ (ks:List Nat) (rest:List Tre) (p:Nat),m=rest.length/\v0=v/\v1=.int .i64 (i:Nat)/\v6=.int .i64 (p:Nat)/\fW U af v5 3 1 ks.length (cX ks)/\oV l p rest/\ks++aX p rest=aX (i+1) t.kids/\p+(Tre.bQ rest).length=i+t.flat.length/\ks.length+i < p,
  ⟨_,[],t.kids,i+1,rfl,rfl,rfl,rfl,.nil (dD.refl _),ht.kids,rfl,by omega,by simp⟩,?_⟩
 rintro m v0 v1 v5 v6 aQ ⟨ks,rest,p,rfl,rfl,rfl,rfl,hg,pG,iq,hp,jQ⟩
 have NW:=hv.qG hg.ex
 refine sw NW hx (zp x) ?_
 rw [cr,NR]
 refine ⟨aW (by omega) (by omega),?_⟩
 simp only [a7,al,bh]
 refine ⟨fun aM=>?_,fun gq=>?_⟩
 . cases rest with
   | nil=>simp at hp; omega
   | cons s rest =>
     obtain ⟨y,hy,_,hsy,_⟩:=pG.head.lR
     have y9:=s.du
     have ni:=pG.head.le
     refine Ds rfl rfl ?_
     refine wx hg (m:=1) (l2:=[.int .i64 (p:Nat)]) rfl rfl (by omega) (by omega) fun bg v' g2 k2=>?_
     have AY:=hv.qG g2.ex
     refine sw AY hy (zp y) ?_
     rw [cr,hsy]
     refine ⟨aW (by omega) (by omega),rest.length,by simp,ks++[p],rest,p+s.flat.length,rfl,rfl,rfl,by simp,by simpa [cX] using g2,pG.tail,by rw [<- iq]; simp [aX],by simp at hp; omega,by simp; omega⟩
 . cases rest with
   | cons s rest=>have:=s.du; simp at hp; omega
   | nil =>
     simp only [aX,gw] at iq
     subst iq
     refine aj.mk (h _ _ ?_)
     have:(aX (i+1) t.kids).length=t.kids.length:=fx _ _
     rw [<- this]; exact hg
theorem W8 {U:St} {R:cO->St->Prop} {v:AV} {l:List Nd} (hv:kn U v l) (hl:l.length <= 100000)
 (hT:wE l->R (.ret (.bool true)) U) (hF:¬ wE l->R (.ret (.bool false)) U):ag K 70 [v] U R:=by
 refine TJ ?_
 unfold VC
 simp only [hv.len,al,aT,aI]
 cases rR:l with
 | nil =>
   subst rR
   simp only [kJ,show decide (((0:Nat):Int)=0)=true from rfl,show (true == false)=false from rfl,aB,aZ,az,if_true,al,bT]
   exact aj.mk (hF fun h=>h.1.1 rfl)
 | cons x0 r0 =>
   have cV:l ≠ []:=by rw [rR]; simp
   have hx0:l[0]?=some x0:=by rw [rR]; rfl
   have uu:mR l=x0.size:=by rw [rR]; rfl
   rw [<- rR]
   have Z5:0 < l.length:=List.length_pos_iff.2 cV
   have:¬ ((l.length:Int)=0):=by omega
   simp only [this,cE,dN]
   refine dU (SD (i:=0) hv hx0 (zp x0) ?_)
   refine dU (UB hv ?_)
   rw [cg]
   refine dU ?_
   simp only [az,bC,if_false,al]
   by_cases h0:x0.size=l.length
   . simp only [h0,bZ,cn,bG]
     refine ⟨fun m v0 v3 af=>∃ i:Nat,m=l.length - i/\v0=v/\v3=.int .i64 (i:Nat)/\af=U/\i <= l.length/\∀ j x,j < i->l[j]?=some x->1 <= x.size/\x.size <= (l.length:Int) - j,⟨_,0,rfl,rfl,rfl,rfl,by omega,fun j x h=>by omega⟩,?_⟩
     rintro m v0 v3 af ⟨i,rfl,rfl,rfl,rfl,hi,hj⟩
     simp only [hv.len,al,a7,bh]
     refine ⟨fun aM=>?_,fun gq=>?_⟩
     . have aM:i < l.length:=by omega
       obtain ⟨x,hx⟩:∃ x,l[i]?=some x:=⟨l[i],by simp [aM]⟩
       refine sw hv hx (zp x) ?_
       rw [a7]
       simp only [al,aI]
       by_cases h1:x.size < 1
       . simp only [h1,bZ,show (true == false)=false from rfl,aB,aZ,az,if_true,al,bT]
         exact aj.mk (hF fun h=>by have:=(h.1.2.2 i x hx).1; omega)
       . simp only [h1,cE,dN]
         refine dU (dU (SD hv hx (zp x) ?_))
         refine dU (UB hv ?_)
         refine dU ?_
         rw [gX,gQ]
         refine jn ⟨aW (by omega) (by omega),?_⟩
         rw [ax,cx]
         refine dU ?_
         simp only [az,bC,if_false,al,bh]
         refine ⟨fun h2=>aj.mk (hF fun h=>by have:=(h.1.2.2 i x hx).2; omega),fun h2=>?_⟩
         rw [cr]
         refine ⟨aW (by omega) (by omega),l.length - (i+1),by omega,i+1,rfl,rfl,by simp,rfl,by omega,fun j y sF hy=>?_⟩
         rcases gr j i with h | h
         . exact hj j y h hy
         . have:j=i:=by omega
           subst this; rw [hx] at hy; cases hy; omega
     . have hi:i=l.length:=by omega
       subst hi
       have vQ:yz l:=⟨cV,by rw [uu,h0],fun j x hx=>hj j x (de.1 hx).1 hx⟩
       clear hj gq
       refine ⟨fun m w0 v4 bg=>∃ i:Nat,m=l.length - i/\w0=v0/\v4=.int .i64 (i:Nat)/\bg=af/\i <= l.length/\∀ (j:Nat) x,j < i->l[j]?=some x->oN l (j+x.size.toNat) l.length (j+1)=j+x.size.toNat,⟨_,0,rfl,rfl,rfl,rfl,by omega,fun j x h=>by omega⟩,?_⟩
       rintro m w0 v4 bg ⟨i,rfl,rfl,rfl,rfl,hi,hj⟩
       simp only [hv.len,al,a7,bh]
       refine ⟨fun aM=>?_,fun gq=>?_⟩
       . have aM:i < l.length:=by omega
         obtain ⟨x,hx⟩:∃ x,l[i]?=some x:=⟨l[i],by simp [aM]⟩
         have NR:=vQ.2.2 i x hx
         rw [cr]
         refine ⟨aW (by omega) (by omega),?_⟩
         refine ⟨fun m u0 v4 v5 cz=>∃ p f:Nat,m=f/\u0=w0/\v4=.int .i64 (i:Nat)/\v5=.int .i64 (p:Nat)/\cz=bg/\p <= l.length/\l.length - p <= f/\oN l (i+x.size.toNat) f p=oN l (i+x.size.toNat) l.length (i+1),⟨_,i+1,l.length,rfl,rfl,rfl,rfl,rfl,by omega,by omega,rfl⟩,?_⟩
         rintro m u0 v4 v5 cz ⟨p,f,rfl,rfl,rfl,rfl,rfl,hp,hf,hw⟩
         refine sw hv hx (zp x) ?_
         rw [cr]
         refine ⟨aW (by omega) (by omega),?_⟩
         simp only [al,a7,bh]
         refine ⟨fun ll=>?_,fun hpg=>?_⟩
         . have aex:p < l.length:=by omega
           obtain ⟨y,hy⟩:∃ y,l[p]?=some y:=⟨l[p],by simp [aex]⟩
           have hsy:=vQ.2.2 p y hy
           refine sw hv hy (zp y) ?_
           rw [cr]
           refine ⟨aW (by omega) (by omega),?_⟩
           cases m with
           | zero=>omega
           | succ f =>
           rw [s9 hy (by omega)] at hw
           exact ⟨f,by omega,p+y.size.toNat,f,rfl,rfl,rfl,by congr 1; omega,rfl,by omega,by omega,hw⟩
         . rw [ta (by omega)] at hw
           refine sw hv hx (zp x) ?_
           rw [cr]
           refine ⟨aW (by omega) (by omega),?_⟩
           simp only [al,cg]
           by_cases yl:(p:Int)=i+x.size
           . simp only [yl,bZ,cn,bG]
             rw [cr]
             refine ⟨aW (by omega) (by omega),l.length - (i+1),by omega,i+1,rfl,rfl,by simp,rfl,by omega,fun j z sF hz=>?_⟩
             rcases gr j i with h | h
             . exact hj j z h hz
             . have:j=i:=by omega
               subst this; rw [hx] at hz; cases hz
               rw [<- hw]; omega
           . simp only [yl,cE,dx,bT]
             exact aj.mk (hF fun h=>yl (by have:=h.2 i x hx; omega))
       . have hi:i=l.length:=by omega
         subst hi
         exact aj.mk (hT ⟨vQ,fun j x hx=>hj j x (de.1 hx).1 hx⟩)
   . simp only [h0,cE,dx,bT]
     exact aj.mk (hF fun h=>h0 (by rw [<- uu]; exact h.1.2.1))
theorem N8 {out:List Nat} {k x:Nat} (h:k < out.length):aK (cX out) k (aC (.int .i64 ((x:Nat):Int)))=cX (out.set k x):=by
 simp only [aK,M1,cX,gu,kJ]
 rw [List.map_set,List.set_eq_take_append_cons_drop,if_pos (by simpa using h)]
 simp
theorem ac7 {K':AV->Prop} {U:St} {v:AV} {ks:List Nat} {i k:Nat} (hv:cB v ks.length (cX ks)) (hk:ks[i]?=some k) (h:K' (.int .i64 (k:Nat))) :
 aF K (au (some (3,1)) none v (.int .i64 (i:Nat))) fun p=>aF K (ah (some (false,1)) p U) K':=by
 have aM:=(de.1 hk).1
 obtain ⟨c,rfl,pS⟩:=hv.at (sz:=1) (e:=3) aM
 obtain ⟨r,hr⟩:=tI hk
 rw [pS,Nat.mul_one,hr]
 exact ⟨by omega,h⟩
theorem abo {K':AV->St->Prop} {Kp:AV->St->Prop} {U:St} {v:AV} {ks:List Nat} {i k:Nat} (hv:cB v ks.length (cX ks)) (hk:ks[i]?=some k) (h:K' (.int .i64 (k:Nat)) U) :
 (au (some (3,1)) none v (.int .i64 (i:Nat))).wp K U (fun p U=>(ah (some (false,1)) p U).wp K U K' Kp) Kp:=by
 have aM:=(de.1 hk).1
 obtain ⟨c,rfl,pS⟩:=hv.at (sz:=1) (e:=3) aM
 obtain ⟨r,hr⟩:=tI hk
 rw [pS,Nat.mul_one,hr]
 exact ⟨by omega,h⟩
theorem Sf {U:St} {R:cO->St->Prop} {v:AV} {t:Tre} (hv:kn U v t.flat) (hl:t.flat.length <= 60000)
 (h:∀ b af,U.live b=none->af.box b=some (cX (n6 0 t))->dD U af->R (.ret (.ms b 0 t.flat.length 1 3)) af):ag K 73 [v] U R:=by
 refine TM ?_
 unfold VF
 simp only [hv.len,al,sU,if_true,wp_cond,pq]
 refine ⟨by simp only [true_and]; omega,fun b hb=>?_⟩
 have hDl:=uV 0 t
 have hz:cN ((t.flat.length:Int)).toNat [AV.int .i64 0]=cX (List.replicate t.flat.length 0):=by
  rw [dL]
  simp only [cX,List.map_replicate]
  generalize t.flat.length=n
  induction n with
  | zero=>rfl
  | succ n ih=>rw [List.replicate_succ,<- ih]; rfl
 rw [hz]
 simp only [NV.at,dL]
 have gl:(U.new b (.box (cX (List.replicate t.flat.length 0)))).box b=some (cX (List.replicate t.flat.length 0)):=aS
 have e1:=bE hb (x:=.box (cX (List.replicate t.flat.length 0)))
 have f1:=hb.1
 generalize U.new b (.box (cX (List.replicate t.flat.length 0)))=aQ at *
 let P (i j:Nat):Prop:=j=0\/∃ i' s',i' < i/\cQ t.flat i' s'/\j ∈ aX (i'+1) s'.kids
 have hD0:(n6 0 t)[0]?=some 0:=by cases t; simp [vD]
 refine ⟨fun m v0 v3 v4 af=>∃ (i:Nat) (out:List Nat),m=t.flat.length - i/\v0=v/\v3=.ms b 0 t.flat.length 1 3/\v4=.int .i64 (i:Nat)/\i <= t.flat.length/\af.box b=some (cX out)/\out.length=t.flat.length/\dD U af/\∀ j,j < t.flat.length->P i j->out[j]?=(n6 0 t)[j]?,
  ⟨_,0,List.replicate t.flat.length 0,rfl,rfl,rfl,rfl,by omega,gl,by simp,e1,fun j hj hp=>?_⟩,?_⟩
 . rcases hp with rfl | ⟨i',_,ky,_⟩
   . rw [hD0]; simp [hj]
   . omega
 clear gl e1
 rintro m w v3 v4 bg ⟨i,out,rfl,rfl,rfl,rfl,hi,oO,Hj,e2,hP⟩
 have AY:=hv.qG e2
 simp only [AY.len,al,a7,bh]
 refine ⟨fun aM=>?_,fun gq=>?_⟩
 . have aM:i < t.flat.length:=by omega
   obtain ⟨⟨s,e,hs,hDe,hDk,hei⟩,aew⟩:=place t aM
   have AU:out[i]?=some e:=by
    rw [hP i aM ?_,hDe]
    rcases aew with h | ⟨i',s',h1,h2,h3⟩
    . exact .inl h
    . exact .inr ⟨i',s',h1,h2,h3⟩
   have ni:=hs.le
   have tD:=Tre.mC s.kids
   have hsf:=jm s
   refine wa AY hs (by omega) fun cz v5 g3=>?_
   have jQ:(aX (i+1) s.kids).length=s.kids.length:=fx _ _
   have hv5:cB v5 (aX (i+1) s.kids).length (cX (aX (i+1) s.kids)):=by rw [jQ]; exact g3.sl
   have aae:∀ k ∈ aX (i+1) s.kids,i < k/\k < t.flat.length:=by
    have:∀ (ts:List Tre) (p:Nat),oV t.flat p ts->∀ k ∈ aX p ts,p <= k/\k < t.flat.length:=by
     intro ts
     induction ts with
     | nil=>intro p _ k hk; simp [aX] at hk
     | cons u ts ih =>
       intro p pG k hk
       simp only [aX,cF] at hk
       rcases hk with rfl | hk
       . have:=pG.head.le; have:=u.du; omega
       . have:=ih _ pG.tail k hk; omega
    intro k hk
    have:=this _ _ hs.kids k hk
    omega
   simp only [bL]
   generalize iq:aX (i+1) s.kids=ks at *
   have e3:=e2.trans g3.ex
   have ZH:=g3.ex.bo oO
   refine ⟨fun m w0 w3 w4 w5 w6 af=>∃ (q:Nat) (xo:List Nat),m=ks.length - q/\w0=w/\w3=.ms b 0 t.flat.length 1 3/\w4=.int .i64 (i:Nat)/\w5=v5/\w6=.int .i64 (q:Nat)/\q <= ks.length/\af.box b=some (cX xo)/\xo.length=t.flat.length/\dD U af/\xo[i]?=some e/\(∀ j,j < t.flat.length->P i j->xo[j]?=(n6 0 t)[j]?)/\∀ q' j,q' < q->ks[q']?=some j->xo[j]?=some (e+1),
    ⟨_,0,out,rfl,rfl,rfl,rfl,rfl,rfl,by omega,ZH,Hj,e3,AU,hP,fun q' j h=>by omega⟩,?_⟩
   clear ZH e3 oO hP AU Hj
   rintro m w0 w3 w4 w5 w6 dZ ⟨q,xo,rfl,rfl,rfl,rfl,rfl,rfl,hq,oO,Hj,e4,AU,hP,hQ⟩
   have acz:br (some false) w5=.val (.int .i64 ks.length):=hv5.len
   simp only [acz,al,a7,bh]
   refine ⟨fun Bw=>?_,fun aem=>?_⟩
   . have Bw:q < ks.length:=by omega
     obtain ⟨fI,tC⟩:∃ fI,ks[q]?=some fI:=⟨ks[q],by simp [Bw]⟩
     have hkr:=aae fI (fl tC)
     refine ac7 hv5 tC ?_
     rw [Ge]
     refine ⟨⟨by omega,by omega,rfl⟩,?_⟩
     obtain ⟨r,hr⟩:=tI AU
     rw [tQ oO,dL,Nat.mul_one,dI,hr,iE,CY]
     refine ⟨aW (by omega) (by omega),?_⟩
     rw [Ge]
     refine ⟨⟨by omega,by omega,rfl⟩,?_⟩
     rw [dL,Nat.mul_one,dI,dP oO]
     refine ⟨⟨rfl,rfl,by rw [N7]; omega⟩,?_⟩
     have wR:=N8 (out:=xo) (k:=fI) (x:=e+1) (by omega)
     rw [show (((e+1:Nat):Int))=(e:Int)+1 by omega] at wR
     rw [wR,cr]
     refine ⟨aW (by omega) (by omega),ks.length - (q+1),by omega,q+1,xo.set fI (e+1),rfl,rfl,rfl,rfl,rfl,by simp,Bw,bD,by simpa using Hj,e4.set f1,?_,fun j hj hp=>?_,fun q' j hq' hj=>?_⟩
     . rw [List.getElem?_set_ne (by omega)]; exact AU
     . by_cases Cx:fI=j
       . subst Cx
         rw [List.getElem?_set_self (by omega)]
         exact (hDk.aX fI (by rw [iq]; exact fl tC)).symm
       . rw [List.getElem?_set_ne Cx]; exact hP j hj hp
     . by_cases Cx:fI=j
       . subst Cx
         rw [List.getElem?_set_self (by omega)]
       . rw [List.getElem?_set_ne Cx]
         rcases gr q' q with h | h
         . exact hQ q' j h hj
         . have:q'=q:=by omega
           subst this; rw [tC] at hj; cases hj; exact absurd rfl Cx
   . have hq:q=ks.length:=by omega
     subst hq
     rw [cr]
     refine ⟨aW (by omega) (by omega),t.flat.length - (i+1),by omega,i+1,xo,rfl,rfl,rfl,by simp,aM,oO,Hj,e4,fun j hj hp=>?_⟩
     rcases hp with hp | ⟨i',s',h1,h2,h3⟩
     . exact hP j hj (.inl hp)
     . rcases gr i' i with h | h
       . exact hP j hj (.inr ⟨i',s',h,h2,h3⟩)
       . have:i'=i:=by omega
         subst this
         have:=h2.inj hs
         subst this
         have hm:j ∈ ks:=by rw [<- iq]; exact h3
         obtain ⟨q',hq',Hn⟩:=List.getElem_of_mem hm
         rw [hQ q' j hq' (by rw [<- Hn]; simp)]
         exact (hDk.aX j h3).symm
 . have hi:i=t.flat.length:=by omega
   subst hi
   have:out=n6 0 t:=by
    refine List.ext_getElem? fun j=>?_
    rcases gr j t.flat.length with hj | hj
    . refine hP j hj ?_
      rcases (place t hj).2 with h | ⟨i',s',h1,h2,h3⟩
      . exact .inl h
      . exact .inr ⟨i',s',by omega,h2,h3⟩
    . rw [zE (by omega),zE (by omega)]
   subst this
   exact aj.mk (h b bg f1 oO e2)
end Go.Rip
namespace Go.Rip
open Go.Proofs Go.RowKit
theorem fZ (b:Bool):ar (.aG []) b=.bool false:=by cases b <;> rfl
theorem Fk (c:UInt8):Pure K 221 [.int .u8 c.toNat] (.bool (jx c)):=by
 intro U R hR
 refine Q1 ?_
 simp (contextual:=true) only [Q0,oI,nD,aT,a7,fD,cx,dT,al,aI,aB,qq,bq,aZ,ax,az,iF,zM,bh,bT,bG,bZ,cE,ite_true,ite_false,beq_true,beq_false,cn,dx,da,if_true,if_false,true_and,and_true,not_true,not_false_iff]
 repeat' (first | refine And.intro ?_ ?_ | intro _)
 all_goals (refine aj.eq hR ?_; simp only [jx,AV.bool.injEq])
 all_goals grind
theorem zF (c:UInt8):Pure K 224 [.int .u8 c.toNat] (.bool (eA c)):=by
 intro U R hR
 refine Q7 ?_
 simp (contextual:=true) only [Q6,oI,nD,aT,a7,fD,cx,dT,al,aI,aB,qq,bq,aZ,ax,az,iF,zM,bh,bT,bG,bZ,cE,ite_true,ite_false,beq_true,beq_false,cn,dx,da,if_true,if_false,true_and,and_true,not_true,not_false_iff]
 repeat' (first | refine And.intro ?_ ?_ | intro _)
 all_goals (refine aj.eq hR ?_; simp only [eA,AV.bool.injEq])
 all_goals grind
theorem OZ (c:UInt8):Pure K 170 [.int .u8 c.toNat] (.bool (iI c)):=by
 intro U R hR
 refine Qf ?_
 unfold Qe
 simp only [aT,al]
 by_cases h:(c.toNat:Int)=10
 . simp only [h,bZ,aI,show (true == false)=false from rfl,aB,aZ,fZ,az,if_true,al]
   refine aj.eq hR ?_
   simp only [iI,AV.bool.injEq]
   grind
 . simp only [h,cE]
   simp (contextual:=true) only [dN,oI,nD,fD,dT,al,aI,fZ,aB,qq,bq,aZ,ax,az,iF,zM,bh,bZ,cE,ite_true,ite_false,beq_true,beq_false,cn,dx,da,if_true,if_false,true_and,and_true,bC]
   repeat' (first | refine And.intro ?_ ?_ | intro _)
   all_goals (refine aj.eq hR ?_; simp only [iI,AV.bool.injEq])
   all_goals grind
theorem O5 (c:UInt8):Pure K 254 [.int .u8 c.toNat] (.bool (jx c || wY c)):=by
 intro U R hR
 refine RH ?_
 unfold RG
 refine (Fk c).go ?_
 cases hs:jx c with
 | true =>
   rw [hs] at hR
   simp only [aI,show (true == false)=false from rfl,aB,aZ,fZ,az,if_true,al]
   exact aj.mk hR
 | false =>
   rw [hs] at hR
   simp (contextual:=true) only [dN,oI,nD,fD,dT,al,aI,aB,qq,bq,aZ,ax,az,iF,zM,bh,bZ,cE,ite_true,ite_false,beq_true,beq_false,cn,dx,da,if_true,if_false,true_and,and_true,bC]
   repeat' (first | refine And.intro ?_ ?_ | intro _)
   all_goals (refine aj.eq hR ?_; simp only [wY,AV.bool.injEq])
   all_goals grind
theorem KS {s:aY} {q:UInt8->Bool} {p i:Nat} (UX:p <= i) (hi:i <= s.length) (bA:∀ j (hj:j < s.length),p <= j->j < i->q s[j]=true) (tz:∀ h:i < s.length,q s[i]=false):(s.drop p).takeWhile q=(s.take i).drop p:=by
 have e:s.drop p=(s.take i).drop p++s.drop i:=by
  conv=>lhs; rw [<- List.take_append_drop i s]
  rw [List.drop_append,List.length_take,Nat.min_eq_left hi,show p - i=0 by omega,dQ]
 have h1:((s.take i).drop p).takeWhile q=(s.take i).drop p:=su fun x hx=>by
  obtain ⟨j,hj,rfl⟩:=List.getElem_of_mem hx
  simp only [List.length_drop,List.length_take] at hj
  rw [List.getElem_drop,List.getElem_take]
  exact bA (p+j) (by omega) (by omega) (by omega)
 rw [e,List.takeWhile_append,h1]
 simp only [if_true]
 rcases gr i s.length with h | h
 . rw [fU h,lL,tz h]; simp
 . rw [List.drop_eq_nil_of_le h]; simp
theorem Mo (s:aY) (p:Nat) (hp:p <= s.length) (hs:s.length <= 100000):Pure K 220 [.str s,.int .i64 (p:Nat)] (.str ((s.drop p).takeWhile cq)):=by
 intro U R hR
 refine QZ ?_
 unfold QY
 refine ⟨fun m v0 v1 v5 af=>∃ i:Nat,m=s.length - i/\p <= i/\i <= s.length/\v0=.str s/\v1=.int .i64 (p:Nat)/\v5=.int .i64 i/\af=U/\∀ j (hj:j < s.length),p <= j->j < i->cq s[j]=true,⟨_,p,rfl,gE _,hp,rfl,rfl,rfl,rfl,fun j hj h1 h2=>by omega⟩,?_⟩
 rintro m v0 v1 v5 af ⟨i,rfl,UX,hi,rfl,rfl,rfl,rfl,bA⟩
 have fin:(∀ h:i < s.length,cq s[i]=false)->(dt true none (.str s) (some (.int .i64 (p:Nat))) (some (.int .i64 (i:Nat)))).wp K af (fun v28 U=>aj R v28 U) (aa R):=fun tz=>by
  simp only [kf,ic,eG,wp_cond,al,dL]
  refine ⟨⟨by omega,by omega,by omega⟩,?_⟩
  rw [KS UX hi bA tz] at hR
  exact aj.mk hR
 simp only [gm,al,a7,aI,aB]
 by_cases aM:i < s.length
 . have mi:(i:Int) < s.length:=by omega
   simp only [mi,bZ,dN,bq,ax,rz,iF,dL,getD_at aM]
   refine ⟨by simp,_,O5 s[i],?_⟩
   have step:cq s[i]=true->(ai .add (BT.mk false false false none false) true (.int .i64 (i:Nat)) (AV.int .i64 1)).wp K af (fun v24 U=>Fn.lam 3 (fun vs U=>∃ m',m' < s.length - i/\Fn.app 3 (fun v0 v1 v5 ib=>∃ i:Nat,m'=s.length - i/\p <= i/\i <= s.length/\v0=.str s/\v1=.int .i64 (p:Nat)/\v5=.int .i64 i/\ib=af/\∀ j (hj:j < s.length),p <= j->j < i->cq s[j]=true) vs U) (.str s) (.int .i64 (p:Nat)) v24 U) (aa R):=fun ha=>by
    rw [cr]
    refine ⟨aW (by omega) (by omega),s.length - (i+1),by omega,i+1,rfl,by omega,by omega,rfl,rfl,by simp,rfl,fun j hj h1 h2=>?_⟩
    rcases gr j i with h | h
    . exact bA j hj h1 h
    . have:j=i:=by omega
      subst this; exact ha
   cases hl:jx s[i] || wY s[i] with
   | true =>
     have ha:cq s[i]=true:=by unfold cq; rw [Bool.or_assoc,hl]; simp
     simp only [aI,aB,show (true == false)=false from rfl,aZ,az,if_true,ax,al,bT]
     exact step ha
   | false =>
     simp only [aI,aB,dN,bq,rz,ax,iF,dL,getD_at aM]
     refine ⟨by omega,_,zF s[i],?_⟩
     have ha:cq s[i]=eA s[i]:=by unfold cq; rw [Bool.or_assoc,hl]; simp
     simp only [az,bC,if_false,if_true,ax,al]
     cases hd:eA s[i] with
     | true=>simp only [bT]; exact step (ha.trans hd)
     | false=>simp only [bG]; exact fin fun _=>ha.trans hd
 . have mi:¬ (i:Int) < s.length:=by omega
   simp only [mi,cE,show (false == true)=false from rfl,aZ,fZ,az,bC,if_false,ax,al,aB,bG]
   exact fin fun h=>absurd h aM
end Go.Rip
namespace Go.Rip
open Go.Proofs Go.RowKit
theorem Mn (s:aY) (p:Nat) (hp:p <= s.length) (hs:s.length <= 100000):Pure K 171 [.str s,.int .i64 (p:Nat)] (.str ((s.drop p).takeWhile fun c=>c.toNat ≠ 10)):=by
 intro U R hR
 refine Qh ?_
 unfold Qg
 refine ⟨fun m v0 v1 v5 af=>∃ i:Nat,m=s.length - i/\p <= i/\i <= s.length/\v0=.str s/\v1=.int .i64 (p:Nat)/\v5=.int .i64 i/\af=U/\∀ j (hj:j < s.length),p <= j->j < i->(decide (s[j].toNat ≠ 10))=true,⟨_,p,rfl,gE _,hp,rfl,rfl,rfl,rfl,fun j hj h1 h2=>by omega⟩,?_⟩
 rintro m v0 v1 v5 af ⟨i,rfl,UX,hi,rfl,rfl,rfl,rfl,bA⟩
 have fin:(∀ h:i < s.length,(decide (s[i].toNat ≠ 10))=false)->(dt true none (.str s) (some (.int .i64 (p:Nat))) (some (.int .i64 (i:Nat)))).wp K af (fun v28 U=>aj R v28 U) (aa R):=fun tz=>by
  simp only [kf,ic,eG,wp_cond,al,dL]
  refine ⟨⟨by omega,by omega,by omega⟩,?_⟩
  rw [KS (q:=fun c=>c.toNat ≠ 10) UX hi bA tz] at hR
  exact aj.mk hR
 simp only [gm,al,a7,aI,aB]
 by_cases aM:i < s.length
 . have mi:(i:Int) < s.length:=by omega
   simp only [mi,bZ,dN,bq,ax,rz,iF,dL,getD_at aM,cg,az,if_true,al]
   refine ⟨by simp,?_⟩
   by_cases qH:s[i].toNat=10
   . have:((s[i].toNat:Int)=10):=by omega
     simp only [this,bZ,cn,bG]
     exact fin fun _=>by simp [qH]
   . have:¬ ((s[i].toNat:Int)=10):=by omega
     simp only [this,cE,dx,bT,cr]
     refine ⟨aW (by omega) (by omega),s.length - (i+1),by omega,i+1,rfl,by omega,by omega,rfl,rfl,by simp,rfl,fun j hj h1 h2=>?_⟩
     rcases gr j i with h | h
     . exact bA j hj h1 h
     . have:j=i:=by omega
       subst this; simp [qH]
 . have mi:¬ (i:Int) < s.length:=by omega
   simp only [mi,cE,show (false == true)=false from rfl,aZ,fZ,az,bC,if_false,ax,al,aB,bG]
   exact fin fun h=>absurd h aM
theorem O3 (c:nY) (l:List aY) (s:aY) (hn:l.length <= 100000):Pure K 222 [.vec l.length c (l.map .str),.str s] (.bool (decide (s ∈ l))):=by
 intro U R hR
 refine Q3 ?_
 unfold Q2
 refine ⟨fun m v0 v1 v5 af=>∃ i:Nat,m=l.length - i/\i <= l.length/\v0=.vec l.length c (l.map .str)/\v1=.str s/\v5=.int .i64 i/\af=U/\∀ j,j < i->l[j]? ≠ some s,⟨_,0,rfl,by omega,rfl,rfl,rfl,rfl,fun j hj=>by omega⟩,?_⟩
 rintro m v0 v1 v5 af ⟨i,rfl,hi,rfl,rfl,rfl,rfl,js⟩
 simp only [Am,a7,al,bh]
 refine ⟨fun aM=>?_,fun gq=>?_⟩
 . have aM:i < l.length:=by omega
   have hd:(l.map AV.str).drop ((i:Int).toNat * 1)=.str l[i]::(l.map AV.str).drop (i+1):=by
    rw [dL,Nat.mul_one,fU (by simpa using aM)]; simp
   rw [ua]
   refine ⟨by omega,?_⟩
   rw [hd,mB,bN]
   simp only [fX,al,bh]
   refine ⟨fun he=>?_,fun cV=>?_⟩
   . refine aj.eq hR ?_
     have:s ∈ l:=he ▸ vb aM
     simp [this]
   . rw [cr]
     refine ⟨aW (by omega) (by omega),l.length - (i+1),by omega,i+1,rfl,by omega,rfl,rfl,by simp,rfl,fun j hj=>?_⟩
     rcases gr j i with h | h
     . exact js j h
     . have:j=i:=by omega
       subst this
       rw [mQ aM]; simpa using cV
 . refine aj.eq hR ?_
   have:s ∉ l:=fun hm=>by
    obtain ⟨j,hj,he⟩:=List.getElem_of_mem hm
    exact js j (by omega) (by rw [mQ hj,he])
   simp [this]
theorem Tj (s w:aY) (p:Nat) (hp:p <= s.length) (hs:s.length <= 100000) (hw:w.length <= 100000):Pure K 227 [.str s,.int .i64 (p:Nat),.str w] (.bool (w.isPrefixOf (s.drop p))):=by
 intro U R hR
 refine Re ?_
 unfold Rc
 simp only [gm,al,pB,dT,aI,aB]
 refine ⟨aW (by omega) (by omega),?_⟩
 by_cases hl:(w.length:Int) <= (s.length:Int) - (p:Int)
 . simp only [hl,bZ,dN,bq,ax,iF,gm,CY]
   refine ⟨aW (by omega) (by omega),?_⟩
   simp only [kf,ic,eG,lJ,ax,dL]
   refine ⟨⟨by omega,by omega,by omega⟩,?_⟩
   simp only [fX,ax,az,if_true,al]
   refine aj.eq hR ?_
   have e:((p:Int)+(w.length:Int)).toNat=p+w.length:=by omega
   rw [e]
   have e2:(s.take (p+w.length)).drop p=(s.drop p).take w.length:=by rw [List.drop_take]; congr 1; omega
   rw [e2]
   congr 1
   rw [o3,da,List.isPrefixOf_iff_prefix,List.prefix_iff_eq_take]
   exact eq_comm
 . simp only [hl,cE,show (false == true)=false from rfl,aZ,az,bC,if_false,al]
   refine aj.eq hR ?_
   congr 1
   rw [eq_comm,Bool.eq_false_iff]
   intro h
   have:=(List.isPrefixOf_iff_prefix.1 h).length_le
   simp at this
   omega
end Go.Rip
namespace Go.Rip
open Go.Proofs Go.RowKit
theorem NA {s:aY} (h:0 < s.length):s.head?=some s[0]:=by
 cases s with
 | nil=>simp at h
 | cons c r=>rfl
theorem O6 (s:aY) (hs:s.length <= 100000):Pure K 225 [.str s] (.int .i64 (kF s)):=by
 intro U R hR
 refine Q9 ?_
 unfold Q8
 refine ⟨fun m v0 v3 v4 af=>∃ i:Nat,m=s.length - i/\i <= s.length/\v0=.str s/\v3=.int .i64 (iw 0 (s.take i))/\v4=.int .i64 i/\af=U/\(s.take i).all eA=true/\(1 < i->s.head? ≠ some 48),⟨s.length,0,by simp [Fn.app,iw]⟩,?_⟩
 rintro m v0 v3 v4 af ⟨i,rfl,hi,rfl,rfl,rfl,rfl,bA,hh⟩
 have hb:=Aq (s.take i) 0 (by omega)
 have yf:=qR (s.take i) 0 bA (by omega)
 simp only [gm,al,a7,bh]
 refine ⟨fun aM=>?_,fun gq=>?_⟩
 . have aM:i < s.length:=by omega
   rw [qC]
   refine ⟨by omega,?_⟩
   rw [dL,getD_at aM]
   refine (zF s[i]).go ?_
   have gD:s.take (i+1)=s.take i++[s[i]]:=by rw [lM,mQ aM]; rfl
   have h0:s.getD (0:Int).toNat 0=s[0]:=getD_at (by omega)
   have hhd:=NA (s:=s) (by omega)
   simp only [dA,al]
   cases hd:eA s[i] with
   | false =>
     simp only [dx,aI,show (true == false)=false from rfl,aB,aZ,fZ,az,if_true,al,bT]
     refine aj.eq hR ?_
     have:s.all eA=false:=by
      rw [Bool.eq_false_iff]
      intro h
      rw [ep] at h
      rw [h s[i] (vb aM)] at hd
      cases hd
     simp [kF,this]
   | true =>
     have hc:=mE.1 hd
     have step:(1 < i+1->s.head? ≠ some 48)->(ai .mul (BT.mk false false false none false) true (AV.int .i64 10) (.int .i64 (iw 0 (s.take i)))).wp K af (fun er U =>
      (eh true none none (.str s) (.int .i64 (i:Nat))).wp K U (fun cJ U =>
      (ai .sub (BT.mk false false false none false) true cJ (AV.int .u8 48)).wp K U (fun v30 U =>
      (wJ (some .i64) true false false v30).wp K U (fun v31 U =>
      (ai .add (BT.mk false false false none false) false er v31).wp K U (fun et U =>
      (u5 et (AV.int .i64 1000001)).wp K U (fun dJ U =>
      (ai .add (BT.mk false false false none false) true (.int .i64 (i:Nat)) (AV.int .i64 1)).wp K U (fun v10 U =>
      Fn.lam 3 (fun vs U=>∃ m',m' < s.length - i/\Fn.app 3 (fun v0 v3 v4 ib=>∃ i:Nat,m'=s.length - i/\i <= s.length/\v0=.str s/\v3=.int .i64 (iw 0 (s.take i))/\v4=.int .i64 i/\ib=af/\(s.take i).all eA=true/\(1 < i->s.head? ≠ some 48)) vs U) (.str s) dJ v10 U) (aa R)) (aa R)) (aa R)) (aa R)) (aa R)) (aa R)) (aa R):=fun hh'=>by
      rw [V7]
      refine ⟨aW (by omega) (by omega),?_⟩
      rw [qC]
      refine ⟨by omega,?_⟩
      rw [dL,getD_at aM]
      have hw:IntKind.u8.wrap ((s[i].toNat:Int) - 48)=(s[i].toNat:Int) - 48:=by
       show ((s[i].toNat:Int) - 48) % 256=_
       omega
      simp only [gX,Gw,al,hw,wJ,wp_cond,cr,Kx]
      refine ⟨aW (by omega) (by omega),aW (by omega) (by omega),aW (by omega) (by omega),?_⟩
      refine ⟨s.length - (i+1),by omega,i+1,rfl,by omega,rfl,?_,by simp,rfl,?_,hh'⟩
      . rw [Fe aM]
        congr 1
        omega
      . rw [gD,List.all_append,bA]; simp [hd]
     simp only [cn,aI,dN,aB,bq,ax,cx,iF]
     by_cases sE:0 < i
     . have:((i:Int) > 0):=by omega
       simp only [show ((0:Int) < (i:Nat)) from this,bZ,dN,bq,ax,rz,h0,aT,iF,az,bC,if_false,if_true,al,bh]
       refine ⟨⟨by omega,by omega⟩,fun Eu=>?_,fun Eu=>?_⟩
       . refine aj.eq hR ?_
         have Zc:s[0]=48:=UInt8.toNat_inj.1 (show s[0].toNat=(48:UInt8).toNat by show s[0].toNat=48; omega)
         have h1:1 < s.length:=by omega
         by_cases ha:s.all eA=false
         . simp [kF,ha]
         . simp [kF,ha,hhd,Zc,h1]
       . refine step fun _ h=>Eu ?_
         rw [hhd] at h
         have:s[0]=48:=by simpa using h
         rw [this]; rfl
     . have:¬ ((0:Int) < (i:Nat)):=by omega
       simp only [this,cE,show (false == true)=false from rfl,aZ,fZ,az,bC,if_false,ax,al,bG]
       exact step fun h=>by omega
 . have hi:i=s.length:=by omega
   subst hi
   rw [oq] at bA hb yf ⊢
   have hv:DT s=iw 0 s:=rfl
   simp only [cx,al,bh]
   have hn:¬ (1 < s.length/\s.head?=some 48):=fun h=>hh h.1 h.2
   refine ⟨fun hm=>?_,fun hm=>?_⟩
   . refine aj.eq hR ?_
     simp only [kF,bA,hn,hv,if_false,Bool.true_eq_false]
     rw [if_pos (by omega)]
   . refine aj.eq hR ?_
     simp only [kF,bA,hn,hv,if_false,Bool.true_eq_false]
     rw [if_neg (by omega)]
end Go.Rip
namespace Go.Rip
open Go.Proofs Go.RowKit
def Sp {α:Type} (V:PR α) (bad:Bool) (i:Nat) (W:PR α):Prop:=if bad=true then V=.bad i else V=W
structure Own (r:Nat) (aw U:St) (nb:List (Nat × List AV)):Prop where
 own:∀ p ∈ nb,p.1 ≠ r/\U.box p.1=some p.2/\aw.live p.1=none
 OA:(nb.map Prod.fst).Nodup
structure S2 (X:Rx) (r:Nat) (aw:St) (V:PR (List Nd)) (bad:Bool) (i:Nat) (W:PR (List Nd)) (nb:List (Nat × List AV)) (U:St):Prop where
 A:uc r (rr X i bad) aw U
 hi:i <= X.L.length
 sp:Sp V bad i W
 own:Own r aw U nb
section
variable {r:Nat} {aw U af:St} {nb:List (Nat × List AV)} {b:Nat} {l:List AV}
theorem Own.JR (h:Own r aw U nb) (e:na r U af):Own r aw af nb :=
 ⟨fun p hp=>⟨(h.own p hp).1,e.bo (h.own p hp).1 (h.own p hp).2.1,(h.own p hp).2.2⟩,h.OA⟩
theorem Own.cons (h:Own r aw U nb) (e:na r U af) (hr:b ≠ r) (h0:aw.live b=none) (hn:U.live b=none) (hb:af.box b=some l):Own r aw af ((b,l)::nb):=by
 refine ⟨fun p hp=>?_,?_⟩
 . rcases cF.1 hp with rfl | hp
   . exact ⟨hr,hb,h0⟩
   . exact (h.JR e).own p hp
 . rw [dV,List.nodup_cons]
   refine ⟨fun hm=>?_,h.OA⟩
   obtain ⟨p,hp,rfl⟩:=List.mem_map.1 hm
   exact dc (h.own p hp).2.1 hn
theorem Own.ne {A6 A7:List (Nat × List AV)} (h:Own r aw U (A6++(b,l)::A7)) {p:Nat × List AV} (hp:p ∈ A6\/p ∈ A7):p.1 ≠ b:=by
 have:=h.OA
 rw [List.map_append,dV,List.nodup_append] at this
 obtain ⟨h1,h2,h3⟩:=this
 rw [List.nodup_cons] at h2
 intro e
 rcases hp with hp | hp
 . exact h3 _ (List.mem_map_of_mem hp) _ (List.mem_cons_self ..) e
 . have hh:=List.mem_map_of_mem (f:=Prod.fst) hp
   rw [e] at hh
   exact h2.1 hh
theorem Own.ir {A6 A7:List (Nat × List AV)} {l':List AV} (h:Own r aw U (A6++(b,l)::A7)) (hb:af.box b=some l') (he:∀ b',b' ≠ b->af.live b'=U.live b'):Own r aw af (A6++(b,l')::A7):=by
 have g:=h.own (b,l) (by simp)
 refine ⟨fun p hp=>?_,?_⟩
 . rw [fN,cF] at hp
   have old:p ∈ A6\/p ∈ A7->p.1 ≠ r/\af.box p.1=some p.2/\aw.live p.1=none:=fun hq=>by
    have g2:=h.own p (by rw [fN,cF]; rcases hq with hq | hq; exact .inl hq; exact .inr (.inr hq))
    exact ⟨g2.1,by rw [fE (he _ (h.ne hq))]; exact g2.2.1,g2.2.2⟩
   rcases hp with hp | rfl | hp
   . exact old (.inl hp)
   . exact ⟨g.1,hb,g.2.2⟩
   . exact old (.inr hp)
 . have:=h.OA; simpa using this
theorem Own.drop {A6 A7:List (Nat × List AV)} (h:Own r aw U (A6++(b,l)::A7)):Own r aw U (A6++A7) :=
 ⟨fun p hp=>h.own p (by rw [fN] at hp ⊢; rcases hp with hp | hp; exact .inl hp; exact .inr (List.mem_cons_of_mem _ hp)),by
   have:=h.OA
   rw [List.map_append,dV] at this
   rw [List.map_append]
   exact this.sublist (List.Sublist.append (List.Sublist.refl _) (List.sublist_cons_self ..))⟩
end
section
variable {X:Rx} {r i:Nat} {bad:Bool} {aw U:St} {V W W':PR (List Nd)} {nb:List (Nat × List AV)} {R:cO->St->Prop} {K':AV->St->Prop} {Kp:AV->St->Prop} {w:aY}
end
section
variable {X:Rx} {r i:Nat} {bad:Bool} {aw U:St} {V W W':PR (List Nd)} {nb:List (Nat × List AV)} {R:cO->St->Prop} {K':AV->St->Prop} {Kp:AV->St->Prop} {k:AV->Prop} {w:aY}
end
end Go.Rip
namespace Go.Rip
open Go.Proofs Go.RowKit
def bx (kind:Int) (text:aY) (n m at_:Int):List AV:=[.int .u8 kind,.str text,.int .i64 n,.int .i64 m,.int .i64 at_,.int .i64 0]
section
variable {X:Rx} {r i:Nat} {bad:Bool} {aw U:St} {V W W':PR (List Nd)} {nb A6 A7:List (Nat × List AV)} {R:cO->St->Prop} {K':AV->St->Prop} {Q:St->Prop} {Kp:AV->St->Prop} {k:AV->Prop} {w:aY} {kind n m at_:Int} {text:aY} {bk:Nat}
theorem S2.new {b:Nat} {l:List AV} (S:S2 X r aw V bad i W nb U) (hf:U.dw b):S2 X r aw V bad i W ((b,l)::nb) (U.new b (.box l)):=by
 have cV:b ≠ r:=fun e=>dc S.A.box (e ▸ hf.1)
 exact ⟨S.A.trans (.tM S.A.box (bE hf)),S.hi,S.sp,S.own.cons (bE hf).Zg cV (S.A.ex.fresh cV hf.1) hf.1 aS⟩
end
section
variable {X:Rx} {i:Nat}
end
end Go.Rip
namespace Go.Rip
open Go.Proofs Go.RowKit
theorem abl {e:Nat} {z x:AV} {U:St} {K':AV->St->Prop} {Kp:AV->St->Prop} (hz:aC z=[z]) (hx:x.eF=true) (hc:aC x=[x]) (h:K' (.vec 1 .full [x]) U):(aJ (some (e,1)) (some [z]) 1 false [(0,x)]).wp K U K' Kp:=by
 rw [jo]
 refine ⟨by omega,?_⟩
 rw [iY (o:=0) (s:=1) rfl]
 refine ⟨⟨hx,by rw [hc]; rfl,by simp [cN]⟩,?_⟩
 rw [kY,hc]
 exact ⟨rfl,h⟩
theorem abm {e:Nat} {z x y:AV} {U:St} {K':AV->St->Prop} {Kp:AV->St->Prop} (hx:x.eF=true) (hc:aC x=[x]) (hy:y.eF=true) (hd:aC y=[y]) (h:K' (.vec 2 .full [x,y]) U):(aJ (some (e,1)) (some [z]) 2 false [(0,x),(1,y)]).wp K U K' Kp:=by
 rw [jo]
 refine ⟨by omega,?_⟩
 rw [iY (o:=0) (s:=1) rfl]
 refine ⟨⟨hx,by rw [hc]; rfl,by simp [cN]⟩,?_⟩
 rw [iY (o:=1) (s:=1) rfl]
 refine ⟨⟨hy,by rw [hd]; rfl,by rw [hc]; simp [cN,aK]⟩,?_⟩
 rw [kY,hc,hd]
 exact ⟨rfl,h⟩
section
variable {X:Rx} {r i:Nat} {bad:Bool} {aw U:St} {V W W':PR (List Nd)} {nb nb':List (Nat × List AV)} {R:cO->St->Prop} {K':AV->St->Prop} {Kp:AV->St->Prop} {w:aY}
theorem Nn {α:Type} {l:List α} {P:α->Bool} {k:Nat} {x:α} (h:∀ j,j < k->∀ y,l[j]?=some y->P y=false) (hk:l[k]?=some x) (hx:P x=true):l.find? P=some x:=by
 induction l generalizing k with
 | nil=>simp at hk
 | cons a l ih =>
   cases k with
   | zero=>simp at hk; subst hk; simp [hx]
   | succ k =>
     have:=h 0 (by omega) a (by simp)
     rw [List.find?_cons,this]
     exact ih (k:=k) (fun j hj y hy=>h (j+1) (by omega) y (by simpa using hy)) (by simpa using hk)
theorem Sy {α:Type} {l:List α} {P:α->Bool} (h:∀ j,j < l.length->∀ y,l[j]?=some y->P y=false):l.find? P=none:=by
 rw [List.find?_eq_none]
 intro x hx
 obtain ⟨j,hj,rfl⟩:=List.mem_iff_getElem.1 hx
 simp [h j hj l[j] (by simp [hj])]
end
section
variable {X:Rx} {i:Nat}
end
end Go.Rip
namespace Go.Rip
open Go.Proofs Go.RowKit
def R9:(Nat->Option (Nat × Nat))->List (Nat × AV)->List AV->Option (List AV)
 | _,[],z=>some z
 | pl,(i,x)::rest,z=>match pl i with
   | some (o,s)=>if x.eF=true/\(aC x).length=s/\o+s <= z.length then R9 pl rest (aK z o (aC x)) else none
   | none=>none
theorem yE {U:St} {K':AV->St->Prop} {Kp:AV->St->Prop} {n m:Nat}:∀ {pl:Nat->Option (Nat × Nat)} {ps:List (Nat × AV)} {z zs:List AV},R9 pl ps z=some zs->zs.length=m->K' (.vec n .full zs) U->(gG pl ps z fun cs=>.cond (cs.length=m) (.val (.vec n .full cs))).wp K U K' Kp
 | pl,[],z,zs,h,hm,hk=>by cases h; rw [kY]; exact ⟨hm,hk⟩
 | pl,(i,x)::rest,z,zs,h,hm,hk=>by
   simp only [R9] at h
   split at h
   . rename_i o s e
     split at h
     . rename_i hc; rw [iY e]; exact ⟨hc,yE h hm hk⟩
     . cases h
   . cases h
theorem aaH {U:St} {R:cO->St->Prop} (h:R (.ret (.vec iU.length .full (iU.map .str))) U):ag K 223 [] U R:=by
 refine Q5 ?_
 unfold Q4
 rw [jo]
 refine ⟨by omega,?_⟩
 exact yE (zs:=iU.map .str) (by kernel_rfl) (by rfl) (aj.mk h)
theorem aaJ {U:St} {R:cO->St->Prop} (h:R (.ret (.vec ef.length .full (ef.map .str))) U):ag K 226 [] U R:=by
 refine Rb ?_
 unfold Ra
 rw [jo]
 refine ⟨by omega,?_⟩
 exact yE (zs:=ef.map .str) (by kernel_rfl) (by rfl) (aj.mk h)
def pz (t:Int × Nat × aY) (p:Nat):AV:=if t.1=0 then .aG [.agg [.int .u8 t.2.1,.str t.2.2,.int .i64 p],.int .i64 0] else .aG [.agg [.int .u8 0,.str [],.int .i64 0],.int .i64 t.1]
theorem KK:∀ x ∈ ef,x ≠ []/\x.length <= 10/\∀ d ∈ x.head?,cq d=false:=by decide
theorem To {c:UInt8} {r:aY} (h:cq c=true):pK (c::r)=(4,0,[]):=by
 have:ef.find? (fun x=>x.isPrefixOf (c::r))=none:=by
  rw [List.find?_eq_none]
  intro x hx hp
  obtain ⟨h1,_,h2⟩:=KK x hx
  cases x with
  | nil=>exact h1 rfl
  | cons d y =>
    have hp:=List.isPrefixOf_iff_prefix.1 hp
    have:=(List.cons_prefix_cons.1 hp).1
    subst this
    rw [h2 d rfl] at h; cases h
 unfold pK
 rw [this]
theorem Fl (s:aY) (p:Nat) (hp:p <= s.length) (hs:s.length <= 100000):Pure K 172 [.str s,.int .i64 (p:Nat)] (pz (e8 (s.drop p)) p):=by
 refine Pure.of rfl (by unfold pz; split <;> rfl) (fun U=>by unfold pz; split <;> rfl) fun R hR=>?_
 refine Qj ?_
 unfold Qi
 rw [df]
 intro b hb
 generalize sH:(bJ _).new b _=U
 have gl:U.box b=some [AV.int .u8 0,AV.str [],AV.int .i64 0]:=by rw [<- sH]; exact aS
 clear sH hb
 refine (Mo s p hp hs).go ?_
 have fin:∀ (cells:List AV) (e:Int) (ps:List (Nat × AV)) (af:St),af.box b=some [AV.int .u8 0,AV.str [],AV.int .i64 0]->sf [(0,1),(1,1),(2,1)] ps [AV.int .u8 0,AV.str [],AV.int .i64 0]=some cells->cells.length=3->pz (e8 (s.drop p)) p=.aG [.agg cells,.int .i64 e] ->
  (ee (some [(0,1),(1,1),(2,1)]) (some [AV.int .u8 0,AV.str [],AV.int .i64 0]) none ps).wp K af (fun v U=>(aU (some (true,3)) (.box b 0) v U).wp K U (fun _ U=>bF (some (true,3)) (.box b 0) U fun r0=>aj R (.aG [r0,.int .i64 e]) U) (aa R)) (aa R):=by
  intro cells e ps af eT h1 hc h2
  refine rL _ h1 ?_
  rw [dP eT]
  have y9:aK [AV.int .u8 0,AV.str [],AV.int .i64 0] 0 (aC (.agg cells))=cells:=by
   match cells,hc with
   | [x,y,z],_=>rfl
  refine ⟨⟨rfl,hc,by simp⟩,?_⟩
  rw [As bD,y9]
  refine ⟨by simp [hc],?_⟩
  rw [h2] at hR
  refine aj.eq (hR _) ?_
  rw [dQ,o4 (by omega)]
 have VM:e8 (s.drop p)=pK (s.drop p)->ag K 226 [] U (aq (fun v51 U =>
  di 5 [.str s,.int .i64 (p:Nat),.box b 0,v51,(AV.int .i64 0)] U fun lp v0 v1 eC v8 v9 U =>
   (br (some false) v8).wp K U (fun gi U =>
   (ai .lss (BT.mk false false false none false) false v9 gi).wp K U (fun gU U =>
   ao gU (
    (au (some (9,1)) none v8 v9).wp K U (fun lC U =>
    (ah (some (false,1)) lC U).wp K U (fun je U =>
    ag K 227 [v0,v1,je] U (aq (fun nV U =>
    ao nV (
     (au (some (9,1)) none v8 v9).wp K U (fun nX U =>
     (ah (some (false,1)) nX U).wp K U (fun j0 U =>
     (ee (some [(0,1),(1,1),(2,1)]) (some [AV.int .u8 0,AV.str [],AV.int .i64 0]) none [(0,(AV.int .u8 4)),(1,j0),(2,v1)]).wp K U (fun v70 U =>
     (aU (some (true,3)) eC v70 U).wp K U (fun _ U =>
     bF (some (true,3)) eC U fun xF =>
     aj R (AV.aG [xF,(AV.int .i64 0)]) U) (aa R)) (aa R)) (aa R)) (aa R)) (
     (ai .add (BT.mk false false false none false) true v9 (AV.int .i64 1)).wp K U (fun iv U =>
     lp v0 v1 eC v8 iv U) (aa R))) (aa R))) (aa R)) (aa R)) (
    (ee (some [(0,1),(1,1),(2,1)]) (some [AV.int .u8 0,AV.str [],AV.int .i64 0]) none []).wp K U (fun mA U =>
    (aU (some (true,3)) eC mA U).wp K U (fun _ U =>
    bF (some (true,3)) eC U fun HX =>
    aj R (AV.aG [HX,(AV.int .i64 4)]) U) (aa R)) (aa R))) (aa R)) (aa R)) (aa R)):=fun jF=>by
  refine aaJ ?_
  simp only [bL]
  refine ⟨fun m v0 v1 v4 v8 v9 af=>∃ k:Nat,m=ef.length - k/\k <= ef.length/\v0=.str s/\v1=.int .i64 (p:Nat)/\v4=.box b 0/\v8=.vec ef.length .full (ef.map .str)/\v9=.int .i64 (k:Nat)/\af=U/\∀ j,j < k->∀ y,ef[j]?=some y->y.isPrefixOf (s.drop p)=false,
   ⟨_,0,rfl,by omega,rfl,rfl,rfl,rfl,rfl,rfl,fun j hj=>by omega⟩,?_⟩
  rintro m v0 v1 v4 v8 v9 af ⟨k,rfl,hk,rfl,rfl,rfl,rfl,rfl,rfl,js⟩
  have ni:ef.length=16:=rfl
  simp only [Am,a7,al,bh]
  refine ⟨fun aM=>?_,fun gq=>?_⟩
  . have aM:k < ef.length:=by omega
    have hd:(ef.map AV.str).drop ((k:Int).toNat * 1)=.str ef[k]::(ef.map AV.str).drop (k+1):=by
     rw [dL,Nat.mul_one,fU (by simpa using aM)]; simp
    rw [ua]
    refine ⟨by omega,?_⟩
    rw [hd,mB,bN]
    have hg:ef[k]?=some ef[k]:=mQ aM
    have nj:=(KK ef[k] (vb aM)).2.1
    refine (Tj s ef[k] p hp hs (by omega)).go ?_
    cases hpx:ef[k].isPrefixOf (s.drop p) with
    | true =>
      simp only [bT]
      rw [ua]
      refine ⟨by omega,?_⟩
      rw [hd,mB,bN]
      refine fin _ 0 _ _ gl rfl rfl ?_
      rw [jF]
      unfold pK
      rw [Nn js hg hpx]
      rfl
    | false =>
      simp only [bG,cr]
      refine ⟨aW (by omega) (by omega),ef.length - (k+1),by omega,k+1,rfl,by omega,rfl,rfl,rfl,rfl,by simp,rfl,fun j hj y hy=>?_⟩
      rcases gr j k with h | h
      . exact js j h y hy
      . have:j=k:=by omega
        subst this
        rw [hg] at hy; cases hy; exact hpx
  . have jQ:k=ef.length:=by omega
    refine fin _ 4 _ _ gl rfl rfl ?_
    rw [jF]
    unfold pK
    rw [Sy (by subst jQ; exact js)]
    rfl
 have oY:e8 (s.drop p)=match (s.drop p).takeWhile cq with
  | []=>pK (s.drop p)
  | c::r=>if eA c then (kF (c::r),2,c::r) else if jx c=false then (4,0,[]) else if (c::r) ∈ iU then (0,3,c::r) else if 12 < (c::r).length then (4,0,[]) else (0,1,c::r):=by
  unfold e8 pK
  simp only
  cases (s.drop p).takeWhile cq <;> rfl
 have Kj:((s.drop p).takeWhile cq).length <= 100000:=by
  have:=(qS cq (l:=s.drop p)).length_le
  simp at this; omega
 have hwd:∀ c r,(s.drop p).takeWhile cq=c::r->cq c=true/\∃ r',s.drop p=c::r':=fun c r h=>by
  cases hd:s.drop p with
  | nil=>rw [hd] at h; simp at h
  | cons d t =>
    rw [hd,lL] at h
    split at h
    . rename_i hc; cases h; exact ⟨hc,t,rfl⟩
    . cases h
 cases hw:(s.drop p).takeWhile cq with
 | nil =>
   rw [hw] at oY
   simp only [lF,show w_=([]:List UInt8) from rfl,bZ,cn,al,aI,aB,show (false == true)=false from rfl,aZ,az,bC,if_false,bG]
   exact VM oY
 | cons c r =>
   rw [hw] at oY Kj
   obtain ⟨hca,r',sD⟩:=hwd c r hw
   have cV:¬ (c::r=w_):=by simp [show w_=([]:List UInt8) from rfl]
   simp only [lF,cV,cE,dx,al,aI,aB,dN,bq,ax,rz,iF]
   refine ⟨by simp,_,Fk c,?_⟩
   simp only [ax,az,if_true,al]
   cases nj:jx c with
   | true =>
     have UH:eA c=false:=by
      unfold jx at nj; unfold eA
      have Zu:=of_decide_eq_true nj
      rw [decide_eq_false_iff_not]
      omega
     simp only [bT]
     simp only [UH,nj,bC,if_false,Bool.true_eq_false] at oY
     refine aaH ?_
     simp only [bL]
     refine (O3 .full iU (c::r) (by decide)).go ?_
     by_cases hk:(c::r) ∈ iU
     . simp only [hk,bZ,bT]
       rw [if_pos hk] at oY
       exact fin _ 0 _ _ gl rfl rfl (by rw [oY]; rfl)
     . simp only [hk,cE,bG,gm,cx,al,bh]
       rw [if_neg hk] at oY
       refine ⟨fun h=>?_,fun h=>?_⟩
       . rw [if_pos (by omega)] at oY
         exact fin _ 4 _ _ gl rfl rfl (by rw [oY]; rfl)
       . rw [if_neg (by omega)] at oY
         exact fin _ 0 _ _ gl rfl rfl (by rw [oY]; rfl)
   | false =>
     simp only [bG]
     refine ⟨by simp,_,zF c,?_⟩
     simp only [ax,az,if_true,al]
     cases UH:eA c with
     | true =>
       simp only [bT]
       simp only [UH,if_true] at oY
       refine (O6 (c::r) Kj).go ?_
       simp only [cg,al]
       by_cases he:kF (c::r)=0
       . simp only [he,bZ,cn,bG]
         exact fin _ 0 _ _ gl rfl rfl (by rw [oY]; simp [pz,he]; rfl)
       . simp only [he,cE,dx,bT]
         exact fin _ _ _ _ gl rfl rfl (by rw [oY]; simp [pz,he])
     | false =>
       simp only [bG]
       simp only [UH,nj,bC,if_false,if_true] at oY
       refine VM ?_
       rw [oY,sD,To hca]
end Go.Rip
namespace Go.Rip
open Go.Proofs Go.RowKit
theorem O0 (s:aY):Pure K 111 [.str s] (.aG [.int .i64 (mI s).1,.int .i64 (mI s).2]):=by
 intro U R hR
 refine Pa ?_
 unfold O9
 simp only [gm,al,cx,bh]
 unfold mI at hR
 refine ⟨fun h=>?_,fun h=>?_⟩
 . rw [if_pos (by omega)] at hR
   exact aj.mk hR
 . rw [if_neg (by omega)] at hR
   refine ⟨fun m v0 v10 af=>∃ i:Nat,m=s.length - i/\i <= s.length/\v0=.str s/\v10=.int .i64 i/\af=U/\∀ j (hj:j < s.length),j < i->iI s[j]=true,⟨s.length,0,by simp [Fn.app]⟩,?_⟩
   rintro m v0 v10 af ⟨i,rfl,hi,rfl,rfl,rfl,bA⟩
   simp only [gm,a7,al,bh]
   refine ⟨fun aM=>?_,fun gq=>?_⟩
   . have aM:i < s.length:=by omega
     rw [qC]
     refine ⟨by omega,?_⟩
     rw [dL,getD_at aM]
     refine (OZ s[i]).go ?_
     simp only [dA,al]
     cases hb:iI s[i] with
     | false =>
       simp only [dx,bT]
       have:s.findIdx? (fun c=>!iI c)=some i:=by
        rw [Mg]
        exact ⟨aM,by simp [hb],fun j hj=>by simp [bA j (by omega) hj]⟩
       rw [this] at hR
       exact aj.mk hR
     | true =>
       simp only [cn,bG,cr]
       refine ⟨aW (by omega) (by omega),s.length - (i+1),by omega,i+1,rfl,by omega,rfl,by simp,rfl,fun j hj sF=>?_⟩
       rcases gr j i with h | h
       . exact bA j hj h
       . have:j=i:=by omega
         subst this; exact hb
   . have:s.findIdx? (fun c=>!iI c)=none:=by
      rw [List.findIdx?_eq_none_iff]
      intro x hx
      obtain ⟨j,hj,rfl⟩:=List.getElem_of_mem hx
      simp [bA j hj (by omega)]
     rw [this] at hR
     exact aj.mk hR
def Bk (v w:AV):Prop:=∀ τ n l n' l',v=.vec n (.own τ) l->w=.vec n' (.own τ) l'->False
theorem Bk.symm {v w:AV} (h:Bk v w):Bk w v:=fun τ n l n' l' h1 h2=>h τ n' l' n l h2 h1
theorem Grow.qG {U af:St} {v:AV} {e sz n:Nat} {l:List AV} (g:Grow U v e sz n l) (h:dD U af):Grow af v e sz n l:=by
 rcases g with g | ⟨τ,h1,h2,h3⟩
 . exact .inl g
 . exact .inr ⟨τ,h1,h.tok h2,h3⟩
theorem Nr {U:St} {v:AV} {e sz n:Nat} {l:List AV} (h:Grow U v e sz n l):br (some false) v=.val (.int .i64 n):=by
 rcases h with ⟨rfl,rfl,rfl⟩ | ⟨τ,rfl,_⟩ <;> rfl
theorem UC {U af:St} {v v' w:AV} {e sz n:Nat} {l:List AV} (g:Grow U w e sz n l) (d:Bk v w)
 (e1:∀ b x,(∀ n l,v ≠ .vec n (.own b) l)->U.live b=some x->af.live b=some x) (e2:∀ n τ l,v'=.vec n (.own τ) l->U.live τ=none\/∃ n l,v=.vec n (.own τ) l):Grow af w e sz n l/\Bk v' w:=by
 rcases g with ⟨h1,h2,rfl⟩ | ⟨τ,rfl,h2,h3⟩
 . exact ⟨.inl ⟨h1,h2,rfl⟩,fun τ n l n' l' _ h=>by cases h⟩
 . refine ⟨.inr ⟨τ,rfl,?_,h3⟩,fun Bj n1 l1 n2 l2 k1 k2=>?_⟩
   . cases hx:U.live τ with
     | none=>exact absurd hx (FF h2)
     | some x=>rw [kg ((e1 τ x (fun n l hv=>d τ n l _ _ hv rfl) hx).trans hx.symm)]; exact h2
   . cases k2
     rcases e2 _ _ _ k1 with h | ⟨n3,l3,h⟩
     . exact FF h2 h
     . exact d τ _ _ _ _ h rfl
theorem WZ (s:aY) (hs:s.length <= 3000) {U:St} {R:cO->St->Prop}
 (cS:∀ l v7 v af,fS s.length s 0 []=.ok l->Grow af v 51 3 l.length (eP l)->(l=[]->v=.aA)->R (.ret (.aG [v,v7,.int .i64 0,.int .i64 0])) af)
 (SK:∀ p e af,fS s.length s 0 []=.bad p e->R (.ret (.aG [.aA,.aA,.int .i64 (p:Nat),.int .i64 e])) af):ag K 112 [.str s] U R:=by
 refine Pc ?_
 unfold Pb
 refine ⟨fun m v0 v6 v7 v8 af=>∃ f p l n7 l7,m=s.length - p/\v0=.str s/\v8=.int .i64 (p:Nat)/\p <= s.length/\s.length - p <= f/\l.length <= 900/\n7 <= p/\fS f s p l=fS s.length s 0 []/\Grow af v6 51 3 l.length (eP l)/\(l=[]->v6=.aA)/\Grow af v7 51 3 n7 l7/\(n7=0->v7=.aA)/\Bk v6 v7,
  ⟨_,s.length,0,[],0,[],rfl,rfl,rfl,by omega,by omega,by simp,by omega,rfl,.inl ⟨rfl,rfl,rfl⟩,fun _=>rfl,.inl ⟨rfl,rfl,rfl⟩,fun _=>rfl,fun τ n l n' l' h=>by cases h⟩,?_⟩
 rintro m v0 v6 v7 v8 aQ ⟨f,p,l,n7,l7,rfl,rfl,rfl,hp,hf,EE,hn7,ej,g6,z6,g7,z7,D⟩
 simp only [gm,a7,al,bh]
 refine ⟨fun aM=>?_,fun gq=>?_⟩
 . have aM:p < s.length:=by omega
   obtain ⟨f,rfl⟩:∃ f',f=f'+1:=⟨f - 1,by omega⟩
   have sD:s.drop p=s[p]::s.drop (p+1):=fU aM
   rw [fS,sD] at ej
   simp only at ej
   have blank:(s[p].toNat=32\/s[p].toNat=10)->(ai .add (BT.mk false false false none false) true (.int .i64 (p:Nat)) (AV.int .i64 1)).wp K aQ (fun dq U=>Fn.lam 4 (fun vs U=>∃ m',m' < s.length - p/\Fn.app 4 (fun v0 v6 v7 v8 af=>∃ f p l n7 l7,m'=s.length - p/\v0=.str s/\v8=.int .i64 (p:Nat)/\p <= s.length/\s.length - p <= f/\l.length <= 900/\n7 <= p/\fS f s p l=fS s.length s 0 []/\Grow af v6 51 3 l.length (eP l)/\(l=[]->v6=.aA)/\Grow af v7 51 3 n7 l7/\(n7=0->v7=.aA)/\Bk v6 v7) vs U) (.str s) v6 v7 dq U) (aa R):=fun yg=>by
    rw [if_pos yg] at ej
    rw [cr]
    exact ⟨aW (by omega) (by omega),s.length - (p+1),by omega,f,p+1,l,n7,l7,rfl,rfl,by simp,by omega,by omega,EE,by omega,ej,g6,z6,g7,z7,D⟩
   rw [qC]
   refine ⟨by omega,?_⟩
   rw [dL,getD_at aM]
   simp only [aT,al]
   by_cases Zs:s[p].toNat=32
   . have:((s[p].toNat:Int)=32):=by omega
     simp only [this,bZ,aI,show (true == false)=false from rfl,aB,aZ,fZ,az,if_true,al,bT]
     exact blank (.inl Zs)
   . have:¬ ((s[p].toNat:Int)=32):=by omega
     simp only [this,cE,aI,dN,aB,bq,ax,rz,dL,getD_at aM,aT,az,bC,if_false,al]
     refine ⟨by omega,?_⟩
     by_cases qH:s[p].toNat=10
     . have:((s[p].toNat:Int)=10):=by omega
       simp only [this,bZ,bT]
       exact blank (.inr qH)
     . have:¬ ((s[p].toNat:Int)=10):=by omega
       simp only [this,cE,bG]
       rw [if_neg (by omega)] at ej
       rw [qC]
       refine ⟨by omega,?_⟩
       rw [dL,getD_at aM]
       simp only [aT,al,bh]
       refine ⟨fun yV=>?_,fun yV=>?_⟩
       . rw [if_pos (by omega)] at ej
         rw [<- sD] at ej
         have UQ:((s.drop p).takeWhile fun c=>decide (c.toNat ≠ 10)).length+p <= s.length:=by
          have:=(qS (fun c:UInt8=>decide (c.toNat ≠ 10)) (l:=s.drop p)).length_le
          simp only [List.length_drop] at this; omega
         have hn1:1 <= ((s.drop p).takeWhile fun c=>decide (c.toNat ≠ 10)).length:=by
          rw [sD,lL,if_pos (by simpa using qH)]; simp
         refine (Mn s p (by omega) (by omega)).go ?_
         generalize ((s.drop p).takeWhile fun c=>decide (c.toNat ≠ 10))=nt at ej UQ hn1 ⊢
         simp only [kf,ic,eG,wp_cond,al]
         refine ⟨⟨by omega,by omega,by omega⟩,?_⟩
         refine rL [.int .u8 5,.str _,.int .i64 (p:Nat)] rfl ?_
         rw [jo]
         refine ⟨by omega,?_⟩
         rw [iY (o:=0) (s:=3) rfl]
         refine ⟨⟨rfl,rfl,by simp [cN]⟩,?_⟩
         rw [kY]
         refine ⟨rfl,?_⟩
         refine Dr (m:=1) g7 rfl rfl (by omega) (by omega) z7 fun bg v7' k1 k2 k3=>?_
         obtain ⟨UA,D'⟩:=UC g6 D.symm k2 k3
         simp only [gm,al,cr]
         exact ⟨aW (by omega) (by omega),s.length - (p+nt.length),by omega,f,p+nt.length,l,n7+1,_,rfl,rfl,by simp,by omega,by omega,EE,by omega,ej,UA,z6,k1,fun h=>by omega,D'.symm⟩
       . rw [if_neg (by omega)] at ej
         rw [<- sD] at ej
         refine (Fl s p hp (by omega)).go ?_
         cases jF:e8 (s.drop p) with
         | mk e kt =>
         obtain ⟨k,tx⟩:=kt
         rw [jF] at ej
         simp only at ej
         have cells:∃ cs,pz (e,k,tx) p=.aG [.agg cs,.int .i64 e]/\cs.length=3/\(e=0->cs=lB ⟨k,tx,p⟩):=by
          unfold pz
          by_cases he:e=0
          . subst he; exact ⟨_,rfl,rfl,fun _=>rfl⟩
          . rw [if_neg he]; exact ⟨_,rfl,rfl,fun h=>absurd h he⟩
         obtain ⟨cs,tw,hc3,Ey⟩:=cells
         rw [tw]
         simp only [bH,List.drop,bN]
         rw [df]
         intro b hb
         rw [dP aS]
         refine ⟨⟨rfl,hc3,by simp⟩,?_⟩
         have e7:=((dD.refl aQ).new (x:=.box [AV.int .u8 0,AV.str [],AV.int .i64 0]) hb).set (x:=.box (aK [AV.int .u8 0,AV.str [],AV.int .i64 0] 0 (aC (.agg cs)))) hb.1
         have y9:aK [AV.int .u8 0,AV.str [],AV.int .i64 0] 0 (aC (.agg cs))=cs:=by
          match cs,hc3 with
          | [x,y,z],_=>rfl
         have rQ:((aQ.new b (.box [AV.int .u8 0,AV.str [],AV.int .i64 0])).set b (.box (aK [AV.int .u8 0,AV.str [],AV.int .i64 0] 0 (aC (.agg cs))))).box b=some cs:=by rw [bD,y9]
         generalize (aQ.new b (.box [AV.int .u8 0,AV.str [],AV.int .i64 0])).set b (.box (aK [AV.int .u8 0,AV.str [],AV.int .i64 0] 0 (aC (.agg cs))))=bg at e7 rQ ⊢
         replace g6:=g6.qG e7
         replace g7:=g7.qG e7
         intro j hj
         have bad:∀ e':Int,e' ≠ 0->fS s.length s 0 []=.bad p e'->j (.str s) v6 v7 (.int .i64 (p:Nat)) (.box b 0) (.int .i64 e') bg:=fun e' mh hl=>by
          refine hj _ _ _ _ _ _ _ ?_
          simp only [cg,al,mh,cE,dx,bT]
          exact aj.mk (SK p e' _ hl)
         have G0:e=0->l.length ≠ 900->j (.str s) v6 v7 (.int .i64 (p:Nat)) (.box b 0) (.int .i64 0) bg:=fun he SI=>by
          have aee:=Ey he
          subst aee
          subst he
          rw [if_neg (by simp),if_neg SI] at ej
          have rU:p+tx.length <= s.length:=by
           have:=(wu jF).2.length_le
           simp at this; omega
          have jh:=(wu jF).1.1
          have ht1:0 < tx.length:=List.length_pos_iff.2 jh
          refine hj _ _ _ _ _ _ _ ?_
          simp only [cg,al,bZ,cn,bG]
          rw [pA rQ]
          refine ⟨by simp [lB],?_⟩
          rw [jo]
          refine ⟨by omega,?_⟩
          rw [iY (o:=0) (s:=3) rfl]
          refine ⟨⟨rfl,rfl,by simp [cN]⟩,?_⟩
          rw [kY]
          refine ⟨rfl,?_⟩
          refine Dr (m:=1) (l2:=lB ⟨k,tx,p⟩) g6 rfl rfl (by omega) (by omega) (fun h=>z6 (tS.1 h)) fun cz v6' k1 k2 k3=>?_
          obtain ⟨g7',D'⟩:=UC g7 D k2 k3
          have J8:=(lj g6 k2).1 rQ
          simp only [ct,al,dI]
          rw [iZ J8]
          simp only [lB,List.drop,bN,gm,al,cr]
          refine ⟨aW (by omega) (by omega),s.length - (p+tx.length),by omega,f,p+tx.length,l++[⟨k,tx,p⟩],n7,l7,rfl,rfl,by simp,by omega,by omega,by simp; omega,by omega,ej,?_,fun h=>by simp at h,g7',z7,D'⟩
          rw [rB,show (l++[(⟨k,tx,p⟩:Tk)]).length=l.length+1 by simp]
          simpa [eP] using k1
         have hlen:br (some false) v6=.val (.int .i64 l.length):=Nr g6
         simp only [aT,al,aI,aB]
         by_cases qf:e=0
         . subst qf
           simp only [bZ,dN,bq,hlen,ax,aT,az,if_true,al,bh]
           refine ⟨fun h=>?_,fun h=>G0 rfl (by omega)⟩
           rw [if_neg (by simp),if_pos (by omega)] at ej
           exact bad 5 (by omega) ej.symm
         . simp only [qf,cE,show (false == true)=false from rfl,aZ,fZ,az,bC,if_false,al,bG]
           rw [if_pos qf] at ej
           exact bad e qf ej.symm
 . have ZM:s.drop p=[]:=List.drop_eq_nil_of_le (by omega)
   have NL:fS s.length s 0 []=.ok l:=by
    rw [<- ej]
    cases f with
    | zero=>rfl
    | succ f=>simp only [fS]; rw [ZM]
   exact aj.mk (cS l _ _ _ NL g6 z6)
theorem H5 (s:aY) (hs:s.length <= 3000):Pure K 57 [.str s] (r9 (mO s)):=by
 refine Pure.of' rfl (by cases mO s with | ok l=>simp [r9,closed,cK,AJ] | bad p e=>rfl) fun R hR=>?_
 refine TA ?_
 unfold Vu
 refine (O0 s).go ?_
 simp only [bH,List.drop,bN,cg,al]
 have ej:mO s=if (mI s).2 ≠ 0 then .bad (mI s).1 (mI s).2 else fS s.length s 0 []:=rfl
 by_cases he:(mI s).2=0
 . simp only [he,bZ,cn,bG]
   rw [if_neg (by simp [he])] at ej
   rw [ej] at hR
   refine WZ s hs (fun l v7 v af h1 g z=>?_) fun p e af h1=>?_
   . simp only [bL,bH,List.drop,bN]
     refine aj.mk (hR _ _ ?_)
     rw [h1]
     show AV.aG [resolve 4 af v,.int .i64 0,.int .i64 0]=_
     rw [zI 2 g z]
     rfl
   . simp only [bL,bH,List.drop,bN]
     refine aj.mk (hR _ _ ?_)
     rw [h1]; rfl
 . simp only [he,cE,dx,bT]
   rw [if_pos he] at ej
   refine aj.mk (hR _ (bJ ⟨.e,0⟩) ?_)
   rw [ej]; rfl
end Go.Rip
namespace Go.Rip
open Go.Proofs Go.RowKit
theorem Cn {c:Prop} [Decidable c] {x:AV} {f:AV->ay} {q:Bool} {U:St} {K':AV->St->Prop} {Kp:AV->St->Prop} (hf:c->f x=.val (.bool q)) (hk:K' (.bool (decide c && q)) U) :
 ad K (ar (.bool (decide c)) true) (ay.val x) fun v6=>ad K (ar (.bool (decide c)) true) (f v6) fun v7=>(aO (.bool (decide c)) v7 (.bool false)).wp K U K' Kp:=by
 by_cases hc:c
 . simp only [hc,bZ,aI,dN,aB,bq,ax,hf hc,az,if_true,al]
   simpa [hc] using hk
 . simp only [hc,cE,aI,show (false == true)=false from rfl,aB,aZ,az,bC,if_false,al]
   simpa [hc] using hk
theorem uW {p:Bool} {x:AV} {f:AV->ay} {q:Bool} {U:St} {K':AV->St->Prop} {Kp:AV->St->Prop} (hf:p=false->f x=.val (.bool q)) (hk:K' (.bool (p || q)) U) :
 ad K (ar (.bool p) false) (ay.val x) fun v6=>ad K (ar (.bool p) false) (f v6) fun v7=>(aO (.bool p) (.bool true) v7).wp K U K' Kp:=by
 cases p with
 | true =>
   simp only [aI,show (true == false)=false from rfl,aB,aZ,az,if_true,al]
   simpa using hk
 | false =>
   simp only [aI,dN,aB,bq,ax,hf rfl,az,bC,if_false,al]
   simpa using hk
theorem rq (k:Int):Pure K 141 [.int .u8 k] (.bool (jb k)):=by
 intro U R hR
 refine PM ?_
 unfold PL
 rw [aT,al]
 refine uW (fun _=>aT ..) (aj.eq hR ?_)
 simp only [jb,AV.bool.injEq]; grind
theorem nC (k:Int):Pure K 142 [.int .u8 k] (.bool (cD k)):=by
 intro U R hR
 refine PO ?_
 unfold PN
 rw [dT,al]
 refine Cn (fun _=>fD ..) (aj.eq hR ?_)
 simp only [cD,AV.bool.injEq]; grind
theorem ru (k:Int):Pure K 191 [.int .u8 k] (.bool (ki k)):=by
 intro U R hR
 refine Qz ?_
 unfold Qy
 rw [dT,al]
 refine Cn (fun _=>fD ..) (aj.eq hR ?_)
 simp only [ki,AV.bool.injEq]; grind
theorem u1 (k:Int):Pure K 139 [.int .u8 k] (.bool (ey k)):=by
 intro U R hR
 refine PI ?_
 unfold PH
 refine (rq k).go ?_
 refine uW (fun _=>aT ..) (aj.eq hR ?_)
 simp only [jb,ey,AV.bool.injEq]; grind
def rm (k:Int):Bool:=decide (k=6\/k=7\/k=12\/k=14\/k=25\/k=26)
theorem yW (k:Int):Pure K 136 [.int .u8 k] (.bool (rm k)):=by
 intro U R hR
 refine PC ?_
 unfold PB
 refine (rq k).go ?_
 refine uW (fun _=>aT ..) ?_
 refine uW (fun _=>aT ..) ?_
 refine uW (fun _=>aT ..) ?_
 refine uW (fun _=>aT ..) (aj.eq hR ?_)
 simp only [jb,rm,AV.bool.injEq]; grind
theorem CH (n:Int):Pure K 137 [.int .i64 n] (.bool (eg n)):=by
 intro U R hR
 refine PE ?_
 unfold PD
 rw [dT,al]
 refine Cn (fun _=>fD ..) (aj.eq hR ?_)
 simp only [eg,AV.bool.injEq]; grind
def kP (k:Int):Bool:=decide (k=2\/k=3\/k=4\/k=5\/k=12\/k=13\/k=14\/k=16\/k=31\/k=32\/k=33\/k=34\/k=37)
theorem Nw (k:Int):Pure K 134 [.int .u8 k] (.bool (kP k)):=by
 intro U R hR
 refine Py ?_
 unfold Px
 intro j hj
 simp only [aT,al,bh]
 have yes:kP k=true->∀ b,b=true->j (.bool b) U:=fun h b hb=>by
  subst hb
  refine hj _ _ ?_
  simp only [bT]
  rw [h] at hR; exact aj.mk hR
 have no:kP k=false->∀ b,b=false->j (.bool b) U:=fun h b hb=>by
  subst hb
  refine hj _ _ ?_
  simp only [bG]
  rw [h] at hR; exact aj.mk hR
 iterate 12
  refine ⟨fun h=>yes (by simp only [kP,da]; omega) _ (by simpa using h),fun _=>?_⟩
 by_cases h:k=37
 . exact yes (by simp only [kP,da]; omega) _ (by simpa using h)
 . exact no (by simp only [kP,decide_eq_false_iff_not]; omega) _ (by simpa using h)
theorem zg (n:Nat) (s:aY) (a:Int) (hs:s.length <= 100000):Pure K 211 [.agg [.int .u8 n,.str s,.int .i64 a]] (.bool (decide (s ≠ []/\e8 s=(0,n,s)))):=by
 refine Pure.of rfl rfl (fun U=>rfl) fun R hR=>?_
 refine QU ?_
 unfold QT
 rw [fg rfl]
 intro b1 gl
 have m1:((bJ ⟨.e,0⟩).new b1 (.box (aC (.agg [.int .u8 n,.str s,.int .i64 a])))).box b1=some [.int .u8 n,.str s,.int .i64 a]:=aS
 generalize (bJ _).new b1 _=aw at *
 clear gl
 simp only [ct,al,dI]
 rw [iZ m1]
 simp only [List.drop,bN,fX,al,bh,ct,dI]
 refine ⟨fun h0=>?_,fun h0=>?_⟩
 . have h0:s=[]:=h0
   refine aj.eq (hR _) ?_
   simp [h0]
 . have h0:s ≠ []:=h0
   rw [iZ m1]
   simp only [List.drop,bN]
   refine (Fl s 0 (by omega) hs).go ?_
   rw [dQ]
   have key:∀ (c1:List AV) (e:Int),pz (e8 s) 0=.aG [.agg c1,.int .i64 e]->c1.length=3->(∃ (k2:Nat) (t2:aY) (a2:Int),c1=[.int .u8 k2,.str t2,.int .i64 a2]/\(decide (s ≠ []/\e8 s=(0,n,s))=(decide (e=0) && (decide ((k2:Int)=n) && decide (t2=s))))) ->
    (aV (.aG [.agg c1,.int .i64 e]) 0).wp K aw (fun v12 U =>
   (aV (.aG [.agg c1,.int .i64 e]) 1).wp K U (fun bP U =>
   (ay.db [AV.int .u8 0,AV.str [],AV.int .i64 0]).wp K U (fun v3 U =>
   (aU (some (true,3)) v3 v12 U).wp K U (fun _ U =>
   (ai .eql (BT.mk false false false none false) true bP (AV.int .i64 0)).wp K U (fun bj U =>
   ad K (ar bj true) (ae (some 0) v3) (fun bW =>
   ad K (ar bj true) (ah (some (false,1)) bW U) (fun bY =>
   ad K (ar bj true) (ae (some 0) (.box b1 0)) (fun bS =>
   ad K (ar bj true) (ah (some (false,1)) bS U) (fun v20 =>
   ad K (ar bj true) (ai .eql (BT.mk false false false none false) false bY v20) (fun v21 =>
   (aO bj v21 (AV.bool false)).wp K U (fun cw U =>
   ad K (ar cw true) (ae (some 1) v3) (fun v24 =>
   ad K (ar cw true) (ah (some (false,1)) v24 U) (fun dE =>
   ad K (ar cw true) (ae (some 1) (.box b1 0)) (fun er =>
   ad K (ar cw true) (ah (some (false,1)) er U) (fun dq =>
   ad K (ar cw true) (ai .eql (BT.mk false false false none false) false dE dq) (fun v28 =>
   (aO cw v28 (AV.bool false)).wp K U (fun cJ U =>
   aj R cJ U) (aa R))))))) (aa R))))))) (aa R)) (aa R)) (aa R)) (aa R)) (aa R):=by
    rintro c1 e - uq ⟨k2,t2,a2,rfl,hd⟩
    simp only [bH,List.drop,bN]
    rw [df]
    intro b3 pc
    have n31:=pc.cH m1
    have m3:(aw.new b3 (.box [AV.int .u8 0,AV.str [],AV.int .i64 0])).box b3=some [AV.int .u8 0,AV.str [],AV.int .i64 0]:=aS
    have m1':=(bE pc (x:=.box [AV.int .u8 0,AV.str [],AV.int .i64 0])).bo m1
    generalize aw.new b3 (.box [AV.int .u8 0,AV.str [],AV.int .i64 0])=aQ at *
    rw [dP m3]
    refine ⟨⟨rfl,rfl,by simp⟩,?_⟩
    have g3:(aQ.set b3 (.box (aK [AV.int .u8 0,AV.str [],AV.int .i64 0] 0 (aC (.agg [.int .u8 k2,.str t2,.int .i64 a2]))))).box b3=some [.int .u8 k2,.str t2,.int .i64 a2]:=by rw [bD]; rfl
    have g1:(aQ.set b3 (.box (aK [AV.int .u8 0,AV.str [],AV.int .i64 0] 0 (aC (.agg [.int .u8 k2,.str t2,.int .i64 a2]))))).box b1=some [.int .u8 n,.str s,.int .i64 a]:=by rw [bf n31]; exact m1'
    generalize aQ.set b3 (.box (aK [AV.int .u8 0,AV.str [],AV.int .i64 0] 0 (aC (.agg [.int .u8 k2,.str t2,.int .i64 a2]))))=bg at *
    simp only [aT,al]
    rw [hd] at hR
    by_cases he:e=0
    . simp only [he,bZ,aI,dN,aB,bq,ct,ax,dI,tQ g3,tQ g1,List.drop,iE,aT,az,if_true,al]
      by_cases hk:(k2:Int)=n
      . simp only [hk,bZ,aI,dN,aB,bq,ct,ax,dI,tQ g3,tQ g1,List.drop,iE,fX,az,if_true,al]
        refine aj.eq (hR _) ?_
        simp [he,hk]
      . simp only [hk,cE,aI,show (false == true)=false from rfl,aB,aZ,az,bC,if_false,al]
        refine aj.eq (hR _) ?_
        simp [he,hk]
    . simp only [he,cE,aI,show (false == true)=false from rfl,aB,aZ,az,bC,if_false,al]
      refine aj.eq (hR _) ?_
      simp [he]
   obtain ⟨⟨e,k2,t2⟩,ht⟩:∃ p,e8 s=p:=⟨_,rfl⟩
   rw [ht]
   unfold pz
   by_cases he:e=0
   . rw [if_pos he]
     refine key _ _ ?_ rfl ⟨k2,t2,_,rfl,?_⟩
     . unfold pz; rw [ht,if_pos he]
     . have e3:((k2:Int)=(n:Int))=(k2=n):=by simp; omega
       simp only [ht,gJ,he,e3]; simp [h0]
   . rw [if_neg he]
     refine key _ _ ?_ rfl ⟨0,[],0,rfl,?_⟩
     . unfold pz; rw [ht,if_neg he]
     . rw [ht]; simp [he]
theorem Jj (s:aY) (hs:s.length <= 100000):Pure K 135 [.str s] (.bool (fA s)):=by
 intro U R hR
 refine PA ?_
 unfold Pz
 refine rL [.int .u8 1,.str s,.int .i64 0] rfl ?_
 refine (zg 1 s 0 hs).go ?_
 refine aj.eq hR ?_
 unfold fA
 have:e8 s=(0,1,s)->s ≠ []:=fun h e=>by subst e; revert h; decide
 rw [AV.bool.injEq,decide_eq_decide]
 exact ⟨fun h=>h.2,fun h=>⟨this h,h⟩⟩
end Go.Rip
namespace Go.Rip
open Go.Proofs Go.RowKit
def fR (ks:List Int):List AV:=ks.map (.int .u8)
theorem DP {ks:List Int} {i:Nat} {k:Int} (h:ks[i]?=some k):∃ r,(fR ks).drop i=.int .u8 k::r:=by
 have aM:=(de.1 h).1
 refine ⟨(fR ks).drop (i+1),?_⟩
 rw [fU (by simpa [fR] using aM)]
 have:=(de.1 h).2
 simp [fR,this]
section
variable {U:St} {v:AV} {ks:List Int} {i:Nat} {k:Int} {e:Nat} {K':AV->St->Prop} {Kp:AV->St->Prop} {kq:AV->Prop}
theorem Uo (hv:cB v ks.length (fR ks)) (hk:ks[i]?=some k) (h:K' (.int .u8 k) U) :
 (au (some (e,1)) none v (.int .i64 (i:Nat))).wp K U (fun p U=>(ah (some (false,1)) p U).wp K U K' Kp) Kp:=by
 have aM:=(de.1 hk).1
 obtain ⟨c,rfl,pS⟩:=hv.at (sz:=1) (e:=e) aM
 obtain ⟨r,hr⟩:=DP hk
 rw [pS,Nat.mul_one,hr]
 exact ⟨by omega,h⟩
theorem GY (hv:cB v ks.length (fR ks)) (hk:ks[i]?=some k) (h:kq (.int .u8 k)) :
 ad K (.bool true) (au (some (e,1)) none v (.int .i64 (i:Nat))) fun p=>ad K (.bool true) (ah (some (false,1)) p U) kq:=by
 have aM:=(de.1 hk).1
 obtain ⟨c,rfl,pS⟩:=hv.at (sz:=1) (e:=e) aM
 obtain ⟨r,hr⟩:=DP hk
 rw [pS,Nat.mul_one,hr]
 exact jn ⟨by omega,jn h⟩
theorem te {f:FuncId} {args:List AV} {x:AV} (h:Pure K f args x) (hk:kq x):ad K (.bool true) (ay.enter f args) kq:=jn ⟨x,h,hk⟩
end
theorem Dy {f:FuncId} {p:Int->Bool} {U:St} {R:cO->St->Prop} {v:AV} {ks:List Int} (hv:cB v ks.length (fR ks)) (hl:ks.length <= 100000) (hp:∀ k,Pure K f [.int .u8 k] (.bool (p k))) (h:R (.ret (.bool (ks.all p))) U) :
 di 2 [v,(AV.int .i64 0)] U fun lp v0 v3 U =>
 (br (some false) v0).wp K U (fun v6 U =>
 (ai .lss (BT.mk false false false none false) false v3 v6).wp K U (fun v7 U =>
 ao v7 (
  (au (some (5,1)) none v0 v3).wp K U (fun v12 U =>
  (ah (some (false,1)) v12 U).wp K U (fun bP U =>
  ag K f [bP] U (aq (fun bK U =>
  (hY .not bK).wp K U (fun bj U =>
  ao bj (
   aj R (AV.bool false) U) (
   (ai .add (BT.mk false false false none false) true v3 (AV.int .i64 1)).wp K U (fun v9 U =>
   lp v0 v9 U) (aa R))) (aa R)) (aa R))) (aa R)) (aa R)) (
  aj R (AV.bool true) U)) (aa R)) (aa R):=by
 refine ⟨fun m v0 v3 af=>∃ i:Nat,m=ks.length - i/\i <= ks.length/\v0=v/\v3=.int .i64 (i:Nat)/\af=U/\(ks.take i).all p=true,⟨_,0,rfl,by omega,rfl,rfl,rfl,by simp⟩,?_⟩
 rintro m v0 v3 af ⟨i,rfl,hi,rfl,rfl,rfl,bA⟩
 have hlen:br (some false) v0=.val (.int .i64 ks.length):=hv.len
 simp only [hlen,a7,al,bh]
 refine ⟨fun aM=>?_,fun gq=>?_⟩
 . have aM:i < ks.length:=by omega
   have hx:ks[i]?=some ks[i]:=by simp [aM]
   refine Uo hv hx ((hp _).go ?_)
   simp only [dA,al]
   cases rS:p ks[i] with
   | true =>
     simp only [cn,bG,cr]
     refine ⟨aW (by omega) (by omega),ks.length - (i+1),by omega,i+1,rfl,by omega,rfl,by simp,rfl,?_⟩
     rw [lM,hx,List.all_append,bA]; simp [rS]
   | false =>
     simp only [dx,bT]
     have:ks.all p=false:=by
      cases hb:ks.all p with
      | false=>rfl
      | true=>rw [ep] at hb; rw [hb _ (vb aM)] at rS; cases rS
     rw [this] at h; exact aj.mk h
 . have hi:i=ks.length:=by omega
   subst hi
   rw [oq] at bA
   rw [bA] at h; exact aj.mk h
section
variable {v:AV} {ks:List Int}
theorem Gr (hv:cB v ks.length (fR ks)) (hl:ks.length <= 100000):Pure K 138 [v] (.bool (ks.all ki)):=fun U R hR=>by
 refine PG ?_; unfold PF; exact Dy hv hl ru hR
theorem Gq (hv:cB v ks.length (fR ks)) (hl:ks.length <= 100000):Pure K 143 [v] (.bool (ks.all jb)):=fun U R hR=>by
 refine PT ?_; unfold PQ; exact Dy hv hl rq hR
theorem p8 (hv:cB v ks.length (fR ks)) (hl:ks.length <= 100000):Pure K 144 [v] (.bool (ks.all cD)):=fun U R hR=>by
 refine PV ?_; unfold PU; exact Dy hv hl nC hR
theorem KX (hv:cB v ks.length (fR ks)) (hl:ks.length <= 100000) (c:Int):Pure K 140 [v,.int .u8 c] (.bool (ks.all fun k=>decide (k=c))):=fun U R h=>by
 refine PK ?_
 unfold PJ
 refine ⟨fun m v0 v1 v3 af=>∃ i:Nat,m=ks.length - i/\i <= ks.length/\v0=v/\v1=.int .u8 c/\v3=.int .i64 (i:Nat)/\af=U/\(ks.take i).all (fun k=>decide (k=c))=true,⟨_,0,rfl,by omega,rfl,rfl,rfl,rfl,by simp⟩,?_⟩
 rintro m v0 v1 v3 af ⟨i,rfl,hi,rfl,rfl,rfl,rfl,bA⟩
 have hlen:br (some false) v0=.val (.int .i64 ks.length):=hv.len
 simp only [hlen,a7,al,bh]
 refine ⟨fun aM=>?_,fun gq=>?_⟩
 . have aM:i < ks.length:=by omega
   have hx:ks[i]?=some ks[i]:=by simp [aM]
   refine Uo hv hx ?_
   rw [cg,al]
   by_cases rS:ks[i]=c
   . simp only [rS,bZ,cn,bG,cr]
     refine ⟨aW (by omega) (by omega),ks.length - (i+1),by omega,i+1,rfl,by omega,rfl,rfl,by simp,rfl,?_⟩
     rw [lM,hx,List.all_append,bA]; simp [rS]
   . simp only [rS,cE,dx,bT]
     have:ks.all (fun k=>decide (k=c))=false:=by
      cases hb:ks.all (fun k=>decide (k=c)) with
      | false=>rfl
      | true=>rw [ep] at hb; exact absurd (of_decide_eq_true (hb _ (vb aM))) rS
     rw [this] at h; exact aj.mk h
 . have hi:i=ks.length:=by omega
   subst hi
   rw [oq] at bA
   rw [bA] at h; exact aj.mk h
theorem IP (hv:cB v ks.length (fR ks)) (hl:ks.length <= 100000):Pure K 145 [v] (.bool (ks.all ln)):=fun U R h=>by
 refine PX ?_
 unfold PW
 refine ⟨fun m v0 v3 af=>∃ i:Nat,m=ks.length - i/\i <= ks.length/\v0=v/\v3=.int .i64 (i:Nat)/\af=U/\(ks.take i).all ln=true,⟨_,0,rfl,by omega,rfl,rfl,rfl,by simp⟩,?_⟩
 rintro m v0 v3 af ⟨i,rfl,hi,rfl,rfl,rfl,bA⟩
 have hlen:br (some false) v0=.val (.int .i64 ks.length):=hv.len
 simp only [hlen,a7,al,bh]
 refine ⟨fun aM=>?_,fun gq=>?_⟩
 . have aM:i < ks.length:=by omega
   have hx:ks[i]?=some ks[i]:=by simp [aM]
   have G0:ln ks[i]=true->(ai .add (BT.mk false false false none false) true (.int .i64 (i:Nat)) (AV.int .i64 1)).wp K af (fun v9 U=>(∃ m',m' < ks.length - i/\∃ U5:Nat,m'=ks.length - U5/\U5 <= ks.length/\v0=v0/\v9=.int .i64 (U5:Nat)/\U=af/\(ks.take U5).all ln=true)) (aa R):=fun rS=>by
    rw [cr]
    refine ⟨aW (by omega) (by omega),ks.length - (i+1),by omega,i+1,rfl,by omega,rfl,by simp,rfl,?_⟩
    rw [lM,hx,List.all_append,bA]; simp [rS]
   have bad:ln ks[i]=false->aj R (AV.bool false) af:=fun rS=>by
    have:ks.all ln=false:=by
     cases hb:ks.all ln with
     | false=>rfl
     | true=>rw [ep] at hb; rw [hb _ (vb aM)] at rS; cases rS
    rw [this] at h; exact aj.mk h
   refine Uo hv hx ((nC _).go ?_)
   simp only [dA,al]
   cases ht:cD ks[i] with
   | true =>
     simp only [cn,aI,show (false == true)=false from rfl,aB,aZ,az,bC,if_false,al,bG]
     exact G0 (by simp only [cD,ln,da] at ht ⊢; omega)
   | false =>
     simp only [dx,aI,dN]
     refine dU (dU (GY hv hx ?_))
     rw [cg]
     refine dU ?_
     simp only [az,if_true,al]
     by_cases h5:ks[i]=35
     . simp only [h5,bZ,cn,aI,show (false == true)=false from rfl,aB,aZ,az,bC,if_false,al,bG]
       exact G0 (by rw [h5]; rfl)
     . simp only [h5,cE,dx,aI,dN]
       refine dU (dU (GY hv hx ?_))
       rw [cg]
       refine dU ?_
       simp only [az,if_true,al]
       by_cases h6:ks[i]=36
       . simp only [h6,bZ,cn,bG]
         exact G0 (by rw [h6]; rfl)
       . simp only [h6,cE,dx,bT]
         exact bad (by simp only [cD,ln,decide_eq_false_iff_not] at ht ⊢; omega)
 . have hi:i=ks.length:=by omega
   subst hi
   rw [oq] at bA
   rw [bA] at h; exact aj.mk h
end
end Go.Rip
namespace Go.Rip
open Go.Proofs Go.RowKit
def qd (k:Int) (ks:List Int):Bool:=match bw k with | some f=>c7 ks f.kids | none=>false
theorem pa {k:Int} (h:k < 1\/37 < k):bw k=none:=by
 unfold bw
 repeat rw [if_neg (by omega)]
section
variable {U:St} {R:cO->St->Prop} {v:AV} {ks:List Int} {c:Prop} [Decidable c] {q:Bool} {f:FuncId} {Kp:AV->St->Prop} {K':AV->St->Prop} {Kp:AV->St->Prop}
theorem qO (hp:Pure K f [v] (.bool q)) (hk:K' (.bool (decide c && q)) U) :
 ad K (ar (.bool (decide c)) true) (ay.val v) fun Dq=>ad K (ar (.bool (decide c)) true) (ay.enter f [Dq]) fun v91=>(aO (.bool (decide c)) v91 (.bool false)).wp K U K' Kp:=by
 by_cases hc:c
 . simp only [hc,bZ,aI,dN]
   refine dU (te hp ?_)
   simp only [az,if_true,al]
   simpa [hc] using hk
 . simp only [hc,cE,aI,show (false == true)=false from rfl,aB,aZ,az,bC,if_false,al]
   simpa [hc] using hk
theorem By {i:Int} {e:Nat} {p:Int->Bool} {cb:Bool} (hv:cB v ks.length (fR ks)) (hp:∀ k,Pure K f [.int .u8 k] (.bool (p k))) (hi:cb=true->0 <= i/\i < ks.length) (hk:K' (.bool (cb && p (ks.getD i.toNat 0))) U) :
 ad K (ar (.bool cb) true) (ay.val v) fun bS=>ad K (ar (.bool cb) true) (au (some (e,1)) none bS (AV.int .i64 i)) fun v20=>ad K (ar (.bool cb) true) (ah (some (false,1)) v20 U) fun v21 =>
  ad K (ar (.bool cb) true) (ay.enter f [v21]) fun cw=>(aO (.bool cb) cw (.bool false)).wp K U K' Kp:=by
 cases cb with
 | true =>
   obtain ⟨h0,h1⟩:=hi rfl
   obtain ⟨j,rfl⟩:∃ j:Nat,i=j:=⟨i.toNat,by omega⟩
   have aM:j < ks.length:=by omega
   have hx:ks[j]?=some ks[j]:=by simp [aM]
   simp only [aI,dN]
   refine dU (GY hv hx (te (hp _) ?_))
   simp only [az,if_true,al]
   have:ks.getD (j:Int).toNat 0=ks[j]:=by rw [dL,mv,hx]; rfl
   rw [this] at hk
   simpa using hk
 | false =>
   simp only [aI,show (false == true)=false from rfl,aB,aZ,az,bC,if_false,al]
   simpa using hk
theorem Ok {i c:Int} {e:Nat} {cb:Bool} {bt:BT} {lb:Bool} (hv:cB v ks.length (fR ks)) (hi:cb=true->0 <= i/\i < ks.length) (hk:K' (.bool (cb && decide (ks.getD i.toNat 0=c))) U) :
 ad K (ar (.bool cb) true) (ay.val v) fun bS=>ad K (ar (.bool cb) true) (au (some (e,1)) none bS (AV.int .i64 i)) fun v20=>ad K (ar (.bool cb) true) (ah (some (false,1)) v20 U) fun v21 =>
  ad K (ar (.bool cb) true) (ai .eql bt lb v21 (.int .u8 c)) fun cw=>(aO (.bool cb) cw (.bool false)).wp K U K' Kp:=by
 cases cb with
 | true =>
   obtain ⟨h0,h1⟩:=hi rfl
   obtain ⟨j,rfl⟩:∃ j:Nat,i=j:=⟨i.toNat,by omega⟩
   have aM:j < ks.length:=by omega
   have hx:ks[j]?=some ks[j]:=by simp [aM]
   simp only [aI,dN]
   refine dU (GY hv hx ?_)
   rw [aT]
   refine dU ?_
   simp only [az,if_true,al]
   have:ks.getD (j:Int).toNat 0=ks[j]:=by rw [dL,mv,hx]; rfl
   rw [this] at hk
   simpa using hk
 | false =>
   simp only [aI,show (false == true)=false from rfl,aB,aZ,az,bC,if_false,al]
   simpa using hk
theorem Bx {b:Nat} {e:Nat} {p:Int->Bool} {cb:Bool} (hv:cB v ks.length (fR ks)) (hl:ks.length <= 100000) (hp:∀ k,Pure K f [.int .u8 k] (.bool (p k))) (hb:0 < b) (hi:cb=true->b <= ks.length) (hk:K' (.bool (cb && p (ks.getD (ks.length - b) 0))) U) :
 ad K (ar (.bool cb) true) (ay.val v) fun v37=>ad K (ar (.bool cb) true) (ay.val (.int .i64 ks.length)) fun gL=>ad K (ar (.bool cb) true) (ai .sub (BT.mk false false false none false) true gL (AV.int .i64 (b:Nat))) fun gS =>
  ad K (ar (.bool cb) true) (au (some (e,1)) none v37 gS) fun v20=>ad K (ar (.bool cb) true) (ah (some (false,1)) v20 U) fun v21 =>
  ad K (ar (.bool cb) true) (ay.enter f [v21]) fun cw=>(aO (.bool cb) cw (.bool false)).wp K U K' Kp:=by
 cases cb with
 | true =>
   have hi:=hi rfl
   have aM:ks.length - b < ks.length:=by omega
   have hx:ks[ks.length - b]?=some ks[ks.length - b]:=by simp [aM]
   simp only [aI,dN]
   refine dU (dU ?_)
   rw [gX,gQ]
   refine jn ⟨aW (by omega) (by omega),?_⟩
   rw [ax,show (ks.length:Int) - b=((ks.length - b:Nat):Int) by omega]
   refine GY hv hx (te (hp _) ?_)
   simp only [az,if_true,al]
   have:ks.getD (ks.length - b) 0=ks[ks.length - b]:=by rw [mv,hx]; rfl
   rw [this] at hk
   simpa using hk
 | false =>
   simp only [aI,show (false == true)=false from rfl,aB,aZ,az,bC,if_false,al]
   simpa using hk
theorem E0 {b:Nat} {e:Nat} {cc:Int} (hv:cB v ks.length (fR ks)) (hl:ks.length <= 100000) (hb:0 < b) (hi:c->b <= ks.length) (hk:K' (.bool (decide c && (ks.take (ks.length - b)).all fun k=>decide (k=cc))) U) :
 ad K (ar (.bool (decide c)) true) (ay.val v) fun v30=>ad K (ar (.bool (decide c)) true) (ay.val (.int .i64 ks.length)) fun v31=>ad K (ar (.bool (decide c)) true) (ai .sub (BT.mk false false false none false) true v31 (AV.int .i64 (b:Nat))) fun et =>
  ad K (ar (.bool (decide c)) true) (dt false (some (e,1)) v30 none (some et)) fun dJ=>ad K (ar (.bool (decide c)) true) (ay.enter 140 [dJ,(AV.int .u8 cc)]) fun fG=>(aO (.bool (decide c)) fG (.bool false)).wp K U K' Kp:=by
 by_cases hc:c
 . have hi:=hi hc
   simp only [hc,bZ,aI,dN]
   refine dU (dU ?_)
   rw [gX,gQ]
   refine jn ⟨aW (by omega) (by omega),?_⟩
   rw [ax,show (ks.length:Int) - b=((ks.length - b:Nat):Int) by omega]
   rcases hv with ⟨h0,_,_⟩ | ⟨cp,rfl⟩
   . omega
   . rw [uM,ic,eG]
     refine jn ⟨by omega,?_⟩
     rw [ax]
     have pG:cB (.vec (((ks.length - b:Nat):Int).toNat - (0:Int).toNat) (sQ cp (some (.int .i64 ((ks.length - b:Nat):Int)))) (((fR ks).take (((ks.length - b:Nat):Int).toNat * 1)).drop ((0:Int).toNat * 1))) (ks.take (ks.length - b)).length (fR (ks.take (ks.length - b))):=by
      refine .inr ⟨sQ cp (some (.int .i64 ((ks.length - b:Nat):Int))),?_⟩
      rw [dL]
      simp [fR,List.map_take]
     refine te (KX pG (by simp; omega) cc) ?_
     simp only [az,if_true,al]
     simpa [hc] using hk
 . simp only [hc,cE,aI,show (false == true)=false from rfl,aB,aZ,az,bC,if_false,al]
   simpa [hc] using hk
end
theorem pQ {c:mZ} {p:Int->Bool} (hp:c.is=p) {lo hi n:Nat} {ks:List Int} (h:n=ks.length):c7 ks [⟨c,lo,hi⟩]=(decide (lo <= n/\n <= hi) && ks.all p):=by rw [vH,hp,h]
theorem getD_take:∀ (l:List Int) (i:Nat),i < l.length->l.drop i=l.getD i 0::l.drop (i+1):=fun l i h=>by
 rw [fU h,mv,mQ h]; rfl
theorem SA {ks:List Int} (hl:ks.length <= 900):c7 ks [⟨.kind 5,0,900⟩,⟨.base,1,1⟩,⟨.term,1,1⟩]=(((decide (2 <= ks.length) && (ks.take (ks.length - 2)).all fun k=>decide (k=5)) && jb (ks.getD (ks.length - 2) 0)) && cD (ks.getD (ks.length - 1) 0)):=by
 have:=rk ⟨.kind 5,0,900⟩ [.base,.term] ks (by simp; omega)
 simp only [dV,jU,gu,kJ,dI,Nat.reduceAdd] at this
 rw [this]
 by_cases h:2 <= ks.length
 . rw [getD_take ks (ks.length - 2) (by omega),show ks.length - 2+1=ks.length - 1 by omega,getD_take ks (ks.length - 1) (by omega),List.drop_of_length_le (show ks.length <= ks.length - 1+1 by omega)]
   have e1:=iz .base [.term] (ks.getD (ks.length - 2) 0) [ks.getD (ks.length - 1) 0] rfl
   have e2:=iz .term [] (ks.getD (ks.length - 1) 0) [] rfl
   simp only [dV,jU] at e1 e2
   rw [e1,e2]
   simp only [c7,List.isEmpty_nil,Bool.and_true,Bool.and_assoc,mZ.is]
   rfl
 . simp [h]
theorem Zh {ks:List Int} (hl:ks.length <= 900):c7 ks [⟨.kind 37,1,900⟩,⟨.term,1,1⟩]=((decide (2 <= ks.length) && (ks.take (ks.length - 1)).all fun k=>decide (k=37)) && cD (ks.getD (ks.length - 1) 0)):=by
 have:=rk ⟨.kind 37,1,900⟩ [.term] ks (by simp; omega)
 simp only [dV,jU,gu,kJ,dI,Nat.reduceAdd] at this
 rw [this]
 by_cases h:2 <= ks.length
 . rw [getD_take ks (ks.length - 1) (by omega),List.drop_of_length_le (show ks.length <= ks.length - 1+1 by omega)]
   have e2:=iz .term [] (ks.getD (ks.length - 1) 0) [] rfl
   simp only [dV,jU] at e2
   rw [e2]
   simp only [c7,List.isEmpty_nil,Bool.and_true,Bool.and_assoc,mZ.is]
   rfl
 . simp [h]
theorem Wo {ks:List Int} (hl:ks.length <= 900):c7 ks [⟨.term,1,1⟩,⟨.kind 37,1,1⟩,⟨.term,1,1⟩]=(((decide (ks.length=3) && cD (ks.getD 0 0)) && decide (ks.getD 1 0=37)) && cD (ks.getD 2 0)):=by
 by_cases h:ks.length=3
 . match ks,h with
   | [a,b,c],_ =>
     have e1:=iz .term [.kind 37,.term] a [b,c] rfl
     have e2:=iz (.kind 37) [.term] b [c] rfl
     have e3:=iz .term [] c [] rfl
     simp only [dV,jU] at e1 e2 e3
     rw [e1,e2,e3]
     simp [c7,mZ.is,Bool.and_assoc]
 . have:=kX [.term,.kind 37,.term] ks
   simp only [dV,jU,gu,kJ,dI,Nat.reduceAdd] at this
   cases hf:c7 ks [⟨.term,1,1⟩,⟨.kind 37,1,1⟩,⟨.term,1,1⟩] with
   | true=>exact absurd (this hf) h
   | false=>simp [h]
end Go.Rip
namespace Go.Rip
open Go.Proofs Go.RowKit
section
variable {U:St} {bt:BT} {l:Bool} {k:IntKind} {a b:Int} {K':AV->St->Prop} {Kp:AV->St->Prop}
theorem fh (h:K' (.bool (decide (a=b))) U):(ai .eql bt l (.int k a) (.int k b)).wp K U K' Kp:=by rw [aT]; exact h
theorem IL (h:K' (.bool (!decide (a=b))) U):(ai .neq bt l (.int k a) (.int k b)).wp K U K' Kp:=by rw [cg]; exact h
theorem wz (h:K' (.bool (decide (b <= a))) U):(ai .geq bt l (.int k a) (.int k b)).wp K U K' Kp:=by rw [dT]; exact h
theorem wA (h:K' (.bool (decide (b < a))) U):(ai .gtr bt l (.int k a) (.int k b)).wp K U K' Kp:=by rw [cx]; exact h
theorem ca {A B:Prop} (h:A):ao (.bool true) A B:=by rw [bT]; exact h
theorem bO {A B:Prop} (h:B):ao (.bool false) A B:=by rw [bG]; exact h
theorem cu {p:Prop} [Decidable p] {A B:Prop} (h:p->A) (h':¬ p->B):ao (.bool (decide p)) A B:=by rw [bh]; exact ⟨h,h'⟩
end
theorem LH {v:AV} {ks:List Int} (hv:cB v ks.length (fR ks)) (hl:ks.length <= 900) (k:Int):Pure K 72 [.int .u8 k,v] (.bool (qd k ks)):=by
 intro U R hR
 refine TL ?_
 unfold VE
 have hlen:br (some false) v=.val (.int .i64 ks.length):=hv.len
 have yj:ks.length <= 100000:=by omega
 rw [hlen,al]
 refine fh ?_
 have out:∀ {b:Bool},qd k ks=b->aj R (.bool b) U:=fun h=>by rw [h] at hR; exact aj.mk hR
 refine cu (fun h1=>?_) fun h1=>?_
 . refine (Gr hv yj).go (out ?_)
   rw [h1]
   show c7 ks [⟨.item,0,900⟩]=_
   rw [pQ (p:=ki) rfl rfl,decide_eq_true (by omega),Bool.true_and]
 intro j hj
 have F8:k=2\/k=5->j v (.int .i64 ks.length) (.int .u8 k) (.bool true) U:=fun hk=>by
  refine hj _ _ _ _ _ ?_
  refine ca ?_
  refine fh ?_
  refine By hv u1 (fun h=>by rw [da] at h; omega) (out ?_)
  have hf:bw k=some ⟨true,false,false,[⟨.type,1,1⟩]⟩:=by rcases hk with rfl | rfl <;> rfl
  unfold qd
  rw [hf]
  show c7 ks [⟨.type,1,1⟩]=_
  rw [pQ (p:=ey) rfl rfl]
  by_cases hn:ks.length=1
  . match ks,hn with
    | [a],_=>simp
  . rw [decide_eq_false (by omega),decide_eq_false (by omega),Bool.false_and,Bool.false_and]
 have ac0:k ≠ 2->k ≠ 5->j v (.int .i64 ks.length) (.int .u8 k) (.bool false) U:=fun AT hn5=>by
  refine hj _ _ _ _ _ ?_
  refine bO ?_
  intro j1 yi
  have F9:k=3\/k=4->j1 v (.int .i64 ks.length) (.int .u8 k) (.bool true) U:=fun hk=>by
   refine yi _ _ _ _ _ ?_
   refine ca ?_
   refine wz ?_
   refine E0 (b:=2) hv yj (by omega) (fun h=>by omega) ?_
   refine Bx (b:=2) hv yj rq (by omega) (fun h=>by rw [bX,da] at h; omega) ?_
   refine Bx (b:=1) hv yj nC (by omega) (fun h=>by simp only [bX,da] at h; omega) (out ?_)
   have hf:bw k=some ⟨true,false,false,[⟨.kind 5,0,900⟩,⟨.base,1,1⟩,⟨.term,1,1⟩]⟩:=by rcases hk with rfl | rfl <;> rfl
   unfold qd
   rw [hf]
   show c7 ks [⟨.kind 5,0,900⟩,⟨.base,1,1⟩,⟨.term,1,1⟩]=_
   rw [SA hl]
   have e2:decide (((2:Nat):Int) <= (ks.length:Int))=decide (2 <= ks.length):=by rw [decide_eq_decide]; omega
   simp only [<- e2]; rfl
  have ac1:k ≠ 3->k ≠ 4->j1 v (.int .i64 ks.length) (.int .u8 k) (.bool false) U:=fun hn3 hn4=>by
   refine yi _ _ _ _ _ ?_
   refine bO ?_
   refine fh (cu (fun h=>?_) fun hn8=>?_)
   . refine wz ?_
     refine qO (Gq hv yj) (out ?_)
     rw [h]
     show c7 ks [⟨.base,2,900⟩]=_
     rw [pQ (p:=jb) rfl rfl]
     congr 1; rw [decide_eq_decide]; omega
   refine fh (cu (fun h=>?_) fun hn9=>?_)
   . refine wz ?_
     refine qO (p8 hv yj) (out ?_)
     rw [h]
     show c7 ks [⟨.term,2,900⟩]=_
     rw [pQ (p:=cD) rfl rfl]
     congr 1; rw [decide_eq_decide]; omega
   refine fh (cu (fun h=>?_) fun aaa=>?_)
   . refine fh ?_
     refine qO (p8 hv yj) (out ?_)
     rw [h]
     show c7 ks [⟨.term,3,3⟩]=_
     rw [pQ (p:=cD) rfl rfl]
     congr 1; rw [decide_eq_decide]; omega
   intro j2 J9
   have acN:bw k=some ⟨kP k,false,false,[⟨.term,2,2⟩]⟩->j2 v (.int .i64 ks.length) (.int .u8 k) (.bool true) U:=fun hf=>by
    refine J9 _ _ _ _ _ ?_
    refine ca ?_
    refine fh ?_
    refine qO (p8 hv yj) (out ?_)
    unfold qd
    rw [hf]
    show c7 ks [⟨.term,2,2⟩]=_
    rw [pQ (p:=cD) rfl rfl]
    congr 1; rw [decide_eq_decide]; omega
   have ac2:k ≠ 11->k ≠ 13->k ≠ 15->k ≠ 17->k ≠ 18->¬ (20 <= k/\k <= 24)->j2 v (.int .i64 ks.length) (.int .u8 k) (.bool false) U:=fun m11 m13 m15 m17 m18 m20=>by
    refine J9 _ _ _ _ _ ?_
    refine bO ?_
    intro j3 hj3
    have rv:∀ f:fQ,bw k=some f->f.kids=[⟨.term,1,1⟩]->j3 v (.int .i64 ks.length) (.int .u8 k) (.bool true) U:=fun f hf UJ=>by
     refine hj3 _ _ _ _ _ ?_
     refine ca ?_
     refine fh ?_
     refine qO (p8 hv yj) (out ?_)
     unfold qd
     rw [hf]
     show c7 ks f.kids=_
     rw [UJ,pQ (p:=cD) rfl rfl]
     congr 1; rw [decide_eq_decide]; omega
    have ac3:k ≠ 12->k ≠ 14->k ≠ 16->k ≠ 19->k ≠ 25->j3 v (.int .i64 ks.length) (.int .u8 k) (.bool false) U:=fun m12 m14 m16 m19 m25=>by
     refine hj3 _ _ _ _ _ ?_
     refine bO ?_
     refine fh (cu (fun h=>?_) fun m34=>?_)
     . refine wz ?_
       refine qO (IP hv yj) (out ?_)
       rw [h]
       show c7 ks [⟨.arg,1,900⟩]=_
       rw [pQ (p:=ln) rfl rfl]
       congr 1; rw [decide_eq_decide]; omega
     refine fh (cu (fun h=>?_) fun m35=>?_)
     . refine wz ?_
       refine E0 (b:=1) hv yj (by omega) (fun h=>by omega) ?_
       refine Bx (b:=1) hv yj nC (by omega) (fun h=>by simp only [bX,da] at h; omega) (out ?_)
       rw [h]
       show c7 ks [⟨.kind 37,1,900⟩,⟨.term,1,1⟩]=_
       rw [Zh hl]
       have e2:decide (((2:Nat):Int) <= (ks.length:Int))=decide (2 <= ks.length):=by rw [decide_eq_decide]; omega
       simp only [<- e2]; rfl
     refine fh (cu (fun h=>?_) fun m36=>?_)
     . refine fh ?_
       refine By hv nC (fun h=>by rw [da] at h; omega) ?_
       refine Ok hv (fun h=>by simp only [bX,da] at h; omega) ?_
       refine By hv nC (fun h=>by simp only [bX,da] at h; omega) (out ?_)
       rw [h]
       show c7 ks [⟨.term,1,1⟩,⟨.kind 37,1,1⟩,⟨.term,1,1⟩]=_
       rw [Wo hl]
       have e2:decide ((ks.length:Int)=3)=decide (ks.length=3):=by rw [decide_eq_decide]; omega
       simp only [e2]; rfl
     intro j4 hj4
     have acO:bw k=some ⟨(kP k),rm k,false,[]⟩->j4 (.int .i64 ks.length) (.bool true) U:=fun hf=>by
      refine hj4 _ _ _ ?_
      refine ca ?_
      refine fh ?_
      refine out ?_
      unfold qd
      rw [hf]
      show c7 ks []=_
      rw [c7,o3,List.isEmpty_iff,da]
      constructor
      . rintro rfl; rfl
      . intro h; exact tS.1 (by omega)
     have last:bw k=none->j4 (.int .i64 ks.length) (.bool false) U:=fun hf=>by
      refine hj4 _ _ _ ?_
      refine bO ?_
      refine out ?_
      unfold qd
      rw [hf]
     have Oj:∀ b,b=true->bw k=some ⟨(kP k),rm k,false,[]⟩->j4 (.int .i64 ks.length) (.bool b) U:=fun b hb h=>by subst hb; exact acO h
     have acM:∀ b,b=false->bw k=none->j4 (.int .i64 ks.length) (.bool b) U:=fun b hb h=>by subst hb; exact last h
     iterate 10
      refine fh (cu (fun h=>Oj _ (by simpa using h) (by rw [h]; rfl)) fun _=>?_)
     refine fh ?_
     by_cases h:k=37
     . exact Oj _ (by simpa using h) (by rw [h]; rfl)
     . exact acM _ (by simpa using h) (pa (by omega))
    simp only [aT,al,bh]
    refine ⟨fun h=>?_,fun m12=>⟨fun h=>?_,fun m14=>⟨fun h=>?_,fun m16=>⟨fun h=>?_,fun m19=>?_⟩⟩⟩⟩
    . simp only [h,bZ]; rw [h] at rv; exact rv _ rfl rfl
    . simp only [h,bZ]; rw [h] at rv; exact rv _ rfl rfl
    . simp only [h,bZ]; rw [h] at rv; exact rv _ rfl rfl
    . simp only [h,bZ]; rw [h] at rv; exact rv _ rfl rfl
    . by_cases h:k=25
      . simp only [h,bZ]; rw [h] at rv; exact rv _ rfl rfl
      . simp only [h,cE]; exact ac3 m12 m14 m16 m19 h
   have ph:∀ b,b=true->bw k=some ⟨kP k,false,false,[⟨.term,2,2⟩]⟩->j2 v (.int .i64 ks.length) (.int .u8 k) (.bool b) U:=fun b hb h=>by subst hb; exact acN h
   refine fh (cu (fun h=>ph _ (by simpa using h) (by rw [h]; rfl)) fun m11=>?_)
   refine fh (cu (fun h=>ph _ (by simpa using h) (by rw [h]; rfl)) fun m13=>?_)
   refine fh (cu (fun h=>ph _ (by simpa using h) (by rw [h]; rfl)) fun m15=>?_)
   refine fh (cu (fun h=>ph _ (by simpa using h) (by rw [h]; rfl)) fun m17=>?_)
   refine fh (cu (fun h=>ph _ (by simpa using h) (by rw [h]; rfl)) fun m18=>?_)
   refine fh (cu (fun h=>ph _ (by simpa using h) (by rw [h]; rfl)) fun m20=>?_)
   refine fh (cu (fun h=>ph _ (by simpa using h) (by rw [h]; rfl)) fun m21=>?_)
   refine fh (cu (fun h=>ph _ (by simpa using h) (by rw [h]; rfl)) fun m22=>?_)
   refine fh (cu (fun h=>ph _ (by simpa using h) (by rw [h]; rfl)) fun m23=>?_)
   refine fh ?_
   by_cases h:k=24
   . exact ph _ (by simpa using h) (by rw [h]; rfl)
   . simp only [h,cE]; exact ac2 m11 m13 m15 m17 m18 (by omega)
  refine fh (cu (fun h=>?_) fun m3=>?_)
  . simp only [h,bZ]; rw [h] at F9; exact F9 (.inl rfl)
  . refine fh ?_
    by_cases h:k=4
    . simp only [h,bZ]; rw [h] at F9; exact F9 (.inr rfl)
    . simp only [h,cE]; exact ac1 m3 h
 refine fh (cu (fun h=>?_) fun m2=>?_)
 . simp only [h,bZ]; rw [h] at F8; exact F8 (.inl rfl)
 . refine fh ?_
   by_cases h:k=5
   . simp only [h,bZ]; rw [h] at F8; exact F8 (.inr rfl)
   . simp only [h,cE]; exact ac0 m2 h
def nz (x:Nd):Bool:=(kP x.kind == decide (x.text ≠ [])) && (!decide (x.text ≠ []) || fA x.text) && (if rm x.kind then eg x.n else decide (x.n=0)) && (if x.kind=12 then eg x.m else decide (x.m=0))
theorem FP:∀ n:Fin 38,(match bw ((n.val:Nat):Int) with | some f=>f.text == kP (n.val:Nat) && f.n == rm (n.val:Nat) && f.m == decide (((n.val:Nat):Int)=12) | none=>true)=true:=by decide +kernel
theorem GW {k:Int} {f:fQ} (h:bw k=some f):f.text=kP k/\f.n=rm k/\f.m=decide (k=12):=by
 have hk:1 <= k/\k <= 37:=by
  by_cases h1:k < 1\/37 < k
  . rw [pa h1] at h; cases h
  . omega
 obtain ⟨n,rfl⟩:∃ n:Nat,k=n:=⟨k.toNat,by omega⟩
 have:=FP ⟨n,by omega⟩
 simp only [h,bX,beq_iff_eq] at this
 exact ⟨this.1.1,this.1.2,this.2⟩
theorem Er {x:Nd} {f:fQ} (h:bw x.kind=some f):nz x=kr x f:=by
 obtain ⟨h1,h2,h3⟩:=GW h
 have z:eg 0=true:=by simp [eg]
 unfold nz kr
 rw [<- h1,<- h2]
 have hm:(if x.kind=12 then eg x.m else decide (x.m=0))=(if f.m=true then eg x.m else decide (x.m=0)):=by
  rw [h3]; by_cases h:x.kind=12 <;> simp [h]
 rw [hm]
 have e0:(x.text != [])=decide (x.text ≠ []):=by
  by_cases h:x.text=[] <;> simp [h]
 rw [e0]
 by_cases ht:x.text=[]
 . have:fA []=false:=by decide
   cases f.text <;> cases f.n <;> cases f.m <;> by_cases hn:x.n=0 <;> by_cases NN:x.m=0 <;> simp [ht,hn,NN,z,this]
 . cases f.text <;> cases f.n <;> cases f.m <;> by_cases hn:x.n=0 <;> by_cases NN:x.m=0 <;> simp [ht,hn,NN,z]
end Go.Rip
namespace Go.Rip
open Go.Proofs Go.RowKit
theorem gV {f:FuncId} {args:List AV} {x:AV} {kq:AV->Prop} (h:Pure K f args x) (hk:kq x):aF K (ay.enter f args) kq:=⟨x,h,hk⟩
theorem hU {b o k:Nat} {kq:AV->Prop} (h:kq (.box b (o+k))):aF K (ae (some k) (.box b o)) kq:=h
theorem Zq {b o k:Nat} {kq:AV->Prop} (h:kq (.box b (o+k))):ad K (.bool true) (ae (some k) (.box b o)) kq:=h
theorem GZ {U:St} {b o:Nat} {L l:List AV} {x:AV} {kq:AV->Prop} (hb:U.box b=some L) (hd:L.drop o=x::l) (h:kq x):ad K (.bool true) (ah (some (false,1)) (.box b o) U) kq:=by rw [ld hb,hd]; exact h
theorem dz {U:St} {b o:Nat} {L l:List AV} {x:AV} {kq:AV->Prop} (hb:U.box b=some L) (hd:L.drop o=x::l) (h:kq x):aF K (ah (some (false,1)) (.box b o) U) kq:=by rw [ld hb,hd]; exact h
theorem dj {U τ:St} {b o:Nat} {L l:List AV} {x:AV} {K':AV->St->Prop} {Kp:AV->St->Prop} (hb:U.box b=some L) (hd:L.drop o=x::l) (h:K' x τ):(ah (some (false,1)) (.box b o) U).wp K τ K' Kp:=by rw [ld hb,hd]; exact h
theorem Ja (x:Nd) (hs:x.text.length <= 100000):Pure K 71 [.agg (cM x)] (.bool (nz x)):=by
 refine Pure.of rfl rfl (fun U=>rfl) fun R hR=>?_
 refine TK ?_
 unfold VD
 rw [fg rfl]
 intro b hb
 have m:((bJ ⟨.e,0⟩).new b (.box (aC (.agg (cM x))))).box b=some (cM x):=aS
 generalize (bJ _).new b _=U at *
 clear hb
 have out:∀ {b:Bool},nz x=b->aj R (.bool b) U:=fun h=>by rw [h] at hR; exact aj.mk (hR _)
 refine hU (dz m rfl (gV (Nw _) ?_))
 refine hU (dz m rfl ?_)
 rw [lF,ax,yD,ax]
 have hw:(!decide (x.text=w_))=decide (x.text ≠ []):=by
  by_cases h:x.text=[] <;> simp [h,w_]
 rw [hw]
 have rest:(kP x.kind != decide (x.text ≠ []))=false->(decide (x.text ≠ []) && !fA x.text)=false ->
  (ae (some 0) (.box b 0)).wp K U (fun v21 U =>
  (ah (some (false,1)) v21 U).wp K U (fun cw U =>
  ag K 136 [cw] U (aq (fun dp U =>
  ad K (ar dp true) (ae (some 2) (.box b 0)) (fun dE =>
  ad K (ar dp true) (ah (some (false,1)) dE U) (fun er =>
  ad K (ar dp true) (ay.enter 137 [er]) (fun dq =>
  ad K (ar dp true) (hY .not dq) (fun v28 =>
  (aO dp v28 (AV.bool false)).wp K U (fun cJ U =>
  ad K (ar cJ false) (ae (some 0) (.box b 0)) (fun v31 =>
  ad K (ar cJ false) (ah (some (false,1)) v31 U) (fun et =>
  ad K (ar cJ false) (ay.enter 136 [et]) (fun dJ =>
  ad K (ar cJ false) (hY .not dJ) (fun fG =>
  ad K (ar cJ false) (ay.val fG) (fun eN =>
  ad K (ar eN true) (ae (some 2) (.box b 0)) (fun fH =>
  ad K (ar eN true) (ah (some (false,1)) fH U) (fun v37 =>
  ad K (ar eN true) (ai .neq (BT.mk false false false none false) true v37 (AV.int .i64 0)) (fun gL =>
  ad K (ar cJ false) (aO eN gL (AV.bool false)) (fun gS =>
  (aO cJ (AV.bool true) gS).wp K U (fun v40 U =>
  ao v40 (
   aj R (AV.bool false) U) (
   (ae (some 0) (.box b 0)).wp K U (fun eY U =>
   (ah (some (false,1)) eY U).wp K U (fun iu U =>
   (ai .eql (BT.mk false false false none false) true iu (AV.int .u8 12)).wp K U (fun eI U =>
   ad K (ar eI true) (ae (some 3) (.box b 0)) (fun gn =>
   ad K (ar eI true) (ah (some (false,1)) gn U) (fun v46 =>
   ad K (ar eI true) (ay.enter 137 [v46]) (fun iL =>
   (aO eI iL (AV.bool false)).wp K U (fun hZ U =>
   ad K (ar hZ false) (ae (some 0) (.box b 0)) (fun fJ =>
   ad K (ar hZ false) (ah (some (false,1)) fJ U) (fun v51 =>
   ad K (ar hZ false) (ai .neq (BT.mk false false false none false) true v51 (AV.int .u8 12)) (fun gT =>
   ad K (ar hZ false) (ay.val gT) (fun v53 =>
   ad K (ar v53 true) (ae (some 3) (.box b 0)) (fun gi =>
   ad K (ar v53 true) (ah (some (false,1)) gi U) (fun gU =>
   ad K (ar v53 true) (ai .eql (BT.mk false false false none false) true gU (AV.int .i64 0)) (fun iM =>
   ad K (ar hZ false) (aO v53 iM (AV.bool false)) (fun iv =>
   (aO hZ (AV.bool true) iv).wp K U (fun iG U =>
   aj R iG U) (aa R)))))))))) (aa R))))) (aa R)) (aa R)) (aa R))) (aa R))))))))))) (aa R)))))) (aa R))) (aa R)) (aa R):=by
  intro h1 h2
  have tB:nz x=((if rm x.kind then eg x.n else decide (x.n=0)) && (if x.kind=12 then eg x.m else decide (x.m=0))):=by
   unfold nz
   cases ha:kP x.kind <;> cases hb:decide (x.text ≠ []) <;> cases hc:fA x.text <;> simp_all
  rw [tB] at out
  clear tB hR hw
  simp only [ct,al,dI]
  refine dj m rfl ((yW _).go ?_)
  have second:(if rm x.kind then eg x.n else decide (x.n=0))=true->(ah (some (false,1)) (.box b 0) U).wp K U (fun iu U =>
   (ai .eql (BT.mk false false false none false) true iu (AV.int .u8 12)).wp K U (fun eI U =>
   ad K (ar eI true) (.val (.box b 3)) (fun gn =>
   ad K (ar eI true) (ah (some (false,1)) gn U) (fun v46 =>
   ad K (ar eI true) (ay.enter 137 [v46]) (fun iL =>
   (aO eI iL (AV.bool false)).wp K U (fun hZ U =>
   ad K (ar hZ false) (.val (.box b 0)) (fun fJ =>
   ad K (ar hZ false) (ah (some (false,1)) fJ U) (fun v51 =>
   ad K (ar hZ false) (ai .neq (BT.mk false false false none false) true v51 (AV.int .u8 12)) (fun gT =>
   ad K (ar hZ false) (ay.val gT) (fun v53 =>
   ad K (ar v53 true) (.val (.box b 3)) (fun gi =>
   ad K (ar v53 true) (ah (some (false,1)) gi U) (fun gU =>
   ad K (ar v53 true) (ai .eql (BT.mk false false false none false) true gU (AV.int .i64 0)) (fun iM =>
   ad K (ar hZ false) (aO v53 iM (AV.bool false)) (fun iv =>
   (aO hZ (AV.bool true) iv).wp K U (fun iG U =>
   aj R iG U) (aa R)))))))))) (aa R))))) (aa R)) (aa R):=by
   intro h3
   rw [h3,Bool.true_and] at out
   refine dj m rfl (fh ?_)
   by_cases hk:x.kind=12
   . simp only [hk,bZ,aI,dN]
     refine dU (GZ m rfl (te (CH _) ?_))
     simp only [az,if_true,al]
     rw [if_pos hk] at out
     cases hm:eg x.m with
     | true =>
       simp only [aI,show (true == false)=false from rfl,aB,aZ,fZ,az,if_true,al]
       exact out hm
     | false =>
       simp only [aI,dN]
       refine dU (GZ m rfl ?_)
       simp only [cM,List.drop,cg,hk,bZ,cn,aB,bq,ax,aI,show (false == true)=false from rfl,aZ,az,bC,if_false,al]
       exact out hm
   . rw [if_neg hk] at out
     simp only [hk,cE,aI,show (false == true)=false from rfl,aB,aZ,az,bC,if_false,al,dN,bq,ax]
     refine dz m rfl ?_
     simp only [cg,hk,cE,dx,ax,aI,dN,aB,bq]
     refine dz m rfl ?_
     simp only [aT,ax,az,if_true,bC,if_false,al]
     exact out rfl
  cases hn:rm x.kind with
  | true =>
    rw [hn] at second out
    simp only [if_true] at second out
    simp only [aI,dN]
    refine dU (GZ m rfl (te (CH _) ?_))
    simp only [dA,aB,bq,ax,az,if_true,al]
    cases hv:eg x.n with
    | false =>
      simp only [dx,aI,show (true == false)=false from rfl,aB,aZ,fZ,az,if_true,al]
      refine ca (out ?_)
      rw [hv]; rfl
    | true =>
      simp only [cn,aI,dN]
      simp only [aB,bq,ax]
      refine dz m rfl (gV (yW _) ?_)
      rw [hn]
      simp only [dA,cn,ax,aI,show (false == true)=false from rfl,aB,aZ,az,bC,if_false,al]
      exact bO (second hv)
  | false =>
    rw [hn] at second out
    simp only [bC,if_false] at second out
    simp only [aI,show (false == true)=false from rfl,aB,aZ,az,bC,if_false,al,dN,bq,ax]
    refine dz m rfl (gV (yW _) ?_)
    rw [hn]
    simp only [dA,dx,ax,aI,dN,aB,bq]
    refine dz m rfl ?_
    simp only [cg,ax,az,if_true,bC,if_false,al]
    by_cases h0:x.n=0
    . simp only [h0,bZ,cn]
      exact bO (second (by simp [h0]))
    . simp only [h0,cE,dx]
      exact ca (out (by simp [h0]))
 have hff:(kP x.kind != decide (x.text ≠ []))=true\/(decide (x.text ≠ []) && !fA x.text)=true->nz x=false:=fun h=>by
  unfold nz
  cases ha:kP x.kind <;> cases hb:decide (x.text ≠ []) <;> cases hc:fA x.text <;> simp_all
 cases h1:(kP x.kind != decide (x.text ≠ [])) with
 | true =>
   simp only [aI,show (true == false)=false from rfl,aB,aZ,fZ,az,if_true,ax]
   exact ca (out (hff (.inl h1)))
 | false =>
   simp only [aI,dN,ct,aB,bq,ax,dI]
   refine dz m rfl ?_
   rw [lF,ax,hw]
   cases h0:decide (x.text ≠ []) with
   | false =>
     simp only [aI,show (false == true)=false from rfl,aB,aZ,ax,az,bC,if_false]
     exact bO (rest h1 (by rw [h0]; rfl))
   | true =>
     simp only [aI,dN,aB,bq,ax]
     refine dz m rfl (gV (Jj _ hs) ?_)
     simp only [dA,ax,az,if_true,bC,if_false]
     cases hn:fA x.text with
     | true=>exact bO (rest h1 (by rw [hn]; simp))
     | false=>exact ca (out (hff (.inr (by rw [h0,hn]; rfl))))
end Go.Rip
namespace Go.Rip
open Go.Proofs Go.RowKit
def oF (x:Nd) (ks:List Int):Bool:=nz x && qd x.kind ks
theorem HO {k:Int} {t:aY} {n m a:Int} {ks:List Tre} {x:Nd} (h1:x.kind=k) (h2:x.text=t) (h3:x.n=n) (h4:x.m=m):(Tre.mk k t n m a ks).ok=(oF x (ks.map Tre.kind) && Tre.yo ks):=by
 rw [Tre.ok]
 congr 1
 unfold oF qd
 rw [h1]
 cases hf:bw k with
 | none=>simp
 | some f =>
   rw [Er (f:=f) (by rw [h1]; exact hf)]
   congr 1
   unfold kr
   simp only [h2,h3,h4]
theorem lA {l:List Nd}:∀ {ts:List Tre} {p q fI:Nat},oV l p ts->(aX p ts)[q]?=some fI->∃ u,ts[q]?=some u/\cQ l fI u
 | [],p,q,fI,h,hk=>by simp [aX] at hk
 | t::ts,p,0,fI,h,hk=>by simp [aX] at hk; subst hk; exact ⟨t,rfl,h.head⟩
 | t::ts,p,q+1,fI,h,hk=>by
   simp only [aX,List.getElem?_cons_succ] at hk
   obtain ⟨u,h1,h2⟩:=lA h.tail hk
   exact ⟨u,by simpa using h1,h2⟩
theorem CU {l:List Nd}:∀ (N:Nat) (ts:List Tre) (p:Nat),(Tre.bQ ts).length <= N->oV l p ts->(∀ j s x,p <= j->j < p+(Tre.bQ ts).length->cQ l j s->l[j]?=some x->oF x (s.kids.map Tre.kind)=true)->Tre.yo ts=true
 | _,[],_,_,_,_=>by simp
 | 0,t::ts,_,hN,_,_=>by have:=t.du; simp only [Tre.dh,cZ] at hN; omega
 | N+1,.mk k tx n m a ks::ts,p,hN,h,bA=>by
   have yZ:(Tre.mk k tx n m a ks).flat.length=(Tre.bQ ks).length+1:=jm (.mk k tx n m a ks)
   simp only [Tre.dh,cZ] at hN bA
   rw [Tre.tN]
   obtain ⟨x,hx,h1,h2,h3,h4,h5,h6⟩:=h.head.lR
   rw [HO (k:=k) (t:=tx) (n:=n) (m:=m) (x:=x) h1 h3 h4 h5]
   have e1:oF x (ks.map Tre.kind)=true:=bA p _ x (gE _) (by omega) h.head hx
   have e2:=CU N ks (p+1) (by omega) h.head.kids fun j s y yi J9=>bA j s y (by omega) (by omega)
   have e3:=CU N ts (p+(Tre.flat (.mk k tx n m a ks)).length) (by omega) h.tail fun j s y yi J9=>bA j s y (by omega) (by omega)
   rw [e1,e2,e3]; rfl
theorem Dc {t:Tre} (h:t.ok=true) {i:Nat} {s:Tre} (hs:cQ t.flat i s):s.ok=true:=by
 have hi:i < t.flat.length:=by have:=hs.le; have:=s.du; omega
 obtain ⟨s',h1,h2⟩:=wo (l:=t.flat) t.flat.length [t] 0 (by simp) ⟨[],by simp⟩ i (by omega) (by simpa using hi)
 rw [hs.inj h1]
 exact h2 (by simp [h])
theorem BD {s:Tre} (h:s.ok=true) {l:List Nd} {i:Nat} {x:Nd} (hs:cQ l i s) (hx:l[i]?=some x):oF x (s.kids.map Tre.kind)=true:=by
 obtain ⟨y,hy,h1,h2,h3,h4,h5,h6⟩:=hs.lR
 rw [hx] at hy; cases hy
 cases s with
 | mk k tx n m a ks =>
   rw [HO (k:=k) (t:=tx) (n:=n) (m:=m) (x:=x) h1 h3 h4 h5,bX] at h
   exact h.1
theorem J4:∀ (ss:List ng) (ks:List Int),c7 ks ss=true->∀ k ∈ ks,∃ s ∈ ss,s.c.is k=true
 | [],ks,h,k,hk=>by rw [c7,List.isEmpty_iff] at h; subst h; simp at hk
 | s::ss,ks,h,k,hk=>by
   rw [c7] at h
   split at h
   . cases h
   . generalize hq:((ks.take (min (ks.length - (ss.map (·.least)).sum) s.nL)).takeWhile s.c.is)=q at *
     have pF:q <+: ks:=by
      rw [<- hq]
      exact (qS _).trans (List.take_prefix _ _)
     have iq:ks=q++ks.drop q.length:=by
      obtain ⟨r,hr⟩:=pF
      rw [<- hr]; simp
     rw [iq,fN] at hk
     rcases hk with hk | hk
     . refine ⟨s,by simp,?_⟩
       have:∀ l:List Int,k ∈ l.takeWhile s.c.is->s.c.is k=true:=fun l=>by
        induction l with
        | nil=>simp
        | cons a l ih =>
          rw [lL]
          split
          . rename_i ha
            intro h
            rcases cF.1 h with rfl | h
            . exact ha
            . exact ih h
          . simp
       rw [<- hq] at hk
       exact this _ hk
     . obtain ⟨s',h1,h2⟩:=J4 ss _ h k hk
       exact ⟨s',by simp [h1],h2⟩
theorem WE:∀ n:Fin 38,(match bw ((n.val:Nat):Int) with | some f=>f.kids.all fun s=>!s.c.is 1 | none=>true)=true:=by decide +kernel
theorem aas {k:Int} {ks:List Int} (h:qd k ks=true):(1:Int) ∉ ks:=by
 intro hm
 unfold qd at h
 split at h
 . rename_i f hf
   obtain ⟨s,h1,h2⟩:=J4 _ _ h 1 hm
   have hk:1 <= k/\k <= 37:=by
    by_cases h1:k < 1\/37 < k
    . rw [pa h1] at hf; cases hf
    . omega
   obtain ⟨n,rfl⟩:∃ n:Nat,k=n:=⟨k.toNat,by omega⟩
   have:=WE ⟨n,by omega⟩
   simp only [hf,ep] at this
   have:=this s h1
   rw [h2] at this; cases this
 . cases h
theorem Xi {t:Tre} (h:t.ok=true) {i:Nat} {s:Tre} (hs:cQ t.flat i s) (hi:0 < i):s.kind ≠ 1:=by
 have aM:i < t.flat.length:=by have:=hs.le; have:=s.du; omega
 rcases (place t aM).2 with h0 | ⟨i',s',h1,h2,h3⟩
 . omega
 . obtain ⟨q,hq,Hn⟩:=List.getElem_of_mem h3
   obtain ⟨u,NU,EI⟩:=lA h2.kids (show (aX (i'+1) s'.kids)[q]?=some i by rw [<- Hn]; simp)
   have:=hs.inj EI
   subst this
   have eE:=Dc h h2
   obtain ⟨x,hx,hk,_⟩:=h2.lR
   have hn:=BD eE h2 hx
   unfold oF at hn
   rw [bX] at hn
   intro e
   refine aas hn.2 ?_
   rw [<- e]
   exact List.mem_map_of_mem (fl NU)
theorem M4 {l:List Nd} (h9:¬ 900 < l.length) (h:¬ wE l):gY l=4:=by
 unfold gY
 rw [if_neg h9,RQ (fun h'=>h ((uL l).2 h'))]
end Go.Rip
namespace Go.Rip
open Go.Proofs Go.RowKit
theorem wy {U:St} {bt:BT} {l:Bool} {k:IntKind} {a b:Int} {A B:AV->St->Prop} {Kp:AV->St->Prop} (h:a < b->A (.bool true) U) (h':¬ a < b->B (.bool false) U):(ai .lss bt l (.int k a) (.int k b)).wp K U (fun v U=>ao v (A v U) (B v U)) Kp:=by
 rw [a7,al]
 by_cases hc:a < b
 . simp only [hc,bZ]; exact ca (h hc)
 . simp only [hc,cE]; exact bO (h' hc)
theorem Wq {U:St} {v:AV} {l:List Nd} {i:Nat} {x:Nd} {cb:Bool} {c:Int} {bt:BT} {lb:Bool} {K':AV->St->Prop} {Kp:AV->St->Prop} (h:kn U v l) (hx:l[i]?=some x) (hk:K' (.bool (cb && decide (x.kind=c))) U) :
 ad K (ar (.bool cb) true) (ay.val v) fun a=>ad K (ar (.bool cb) true) (ay.val (.int .i64 (i:Nat))) fun b=>ad K (ar (.bool cb) true) (au (some (43,6)) none a b) fun p=>ad K (ar (.bool cb) true) (ae (some 0) p) fun q =>
  ad K (ar (.bool cb) true) (ah (some (false,1)) q U) fun y=>ad K (ar (.bool cb) true) (ai .eql bt lb y (.int .u8 c)) fun z=>(aO (.bool cb) z (.bool false)).wp K U K' Kp:=by
 cases cb with
 | true =>
   simp only [aI,dN]
   refine dU (dU (SD h hx (LV x) ?_))
   rw [aT]
   refine dU ?_
   simp only [az,if_true,al]
   simpa using hk
 | false =>
   simp only [aI,show (false == true)=false from rfl,aB,aZ,az,bC,if_false,al]
   simpa using hk
theorem JW {U:St} {R:cO->St->Prop} {v:AV} {l:List Nd} (hv:kn U v l) (hl:l.length <= 50000) (jh:∀ x ∈ l,x.text.length <= 100000)
 (h:∀ af,dD U af->R (.ret (.int .i64 (gY l))) af):ag K 31 [.agg [v]] U R:=by
 refine Tw ?_
 unfold Vr
 rw [fg rfl]
 intro b1 gl
 have m1:(U.new b1 (.box (aC (.agg [v])))).box b1=some [v]:=aS
 have e1:=bE gl (x:=.box (aC (.agg [v])))
 generalize U.new b1 (.box (aC (.agg [v])))=aQ at *
 clear gl
 simp only [ct,al,dI]
 refine dj m1 rfl ?_
 have NW:=hv.qG e1
 rw [NW.len,al]
 refine wA (cu (fun h9=>?_) fun h9=>?_)
 . have:gY l=5:=by unfold gY; rw [if_pos (by omega)]
   rw [this] at h
   exact aj.mk (h _ e1)
 have h9:¬ 900 < l.length:=by omega
 refine W8 NW (by omega) (fun hS=>?_) fun hS=>?_
 rotate_left
 . simp only [bL,dA,al,dx,aI,show (true == false)=false from rfl,aB,aZ,az,if_true]
   refine ca ?_
   rw [M4 h9 hS] at h
   exact aj.mk (h _ e1)
 obtain ⟨t,ht⟩:=(uL l).1 hS
 subst ht
 rw [yI t h9] at h
 clear hS
 have CC:=cQ.whole t
 obtain ⟨x0,hx0,Ka,_⟩:=CC.lR
 have pE:=t.du
 simp only [bL,dA,al,cn,aI,dN,aB,bq,ax]
 refine Mf (i:=0) NW hx0 (LV x0) ?_
 rw [cg,ax]
 simp only [az,bC,if_false,al,Ka]
 by_cases oP:t.kind=1
 rotate_left
 . simp only [oP,cE,dx]
   refine ca ?_
   have:sg t=4:=by unfold sg; rw [if_pos (.inl oP)]
   rw [this] at h
   exact aj.mk (h _ e1)
 simp only [oP,bZ,cn]
 refine bO ?_
 have bad:t.ok=false->∀ af,dD U af->aj R (.int .i64 4) af:=fun ho af e=>by
  have:sg t=4:=by unfold sg; rw [if_pos (.inr ho)]
  rw [this] at h
  exact aj.mk (h _ e)
 refine ⟨fun m v3 v4 af=>∃ i:Nat,m=t.flat.length - i/\v3=v/\v4=.int .i64 (i:Nat)/\i <= t.flat.length/\dD U af/\∀ j s x,j < i->cQ t.flat j s->t.flat[j]?=some x->oF x (s.kids.map Tre.kind)=true,⟨_,0,rfl,rfl,rfl,by omega,e1,fun j s x h=>by omega⟩,?_⟩
 rintro m v3 v4 bg ⟨i,rfl,rfl,rfl,hi,e2,hN⟩
 have AY:=hv.qG e2
 rw [AY.len,al]
 refine wy (fun aM=>?_) fun gq=>?_
 . have aM:i < t.flat.length:=by omega
   obtain ⟨⟨s,_,hs,_⟩,_⟩:=place t aM
   refine wa AY hs (by omega) fun cz dJ g3=>?_
   have jQ:(aX (i+1) s.kids).length=s.kids.length:=fx _ _
   have ni:cB dJ (aX (i+1) s.kids).length (cX (aX (i+1) s.kids)):=by rw [jQ]; exact g3.sl
   have hle:=hs.le
   have yZ:=jm s
   have tD:=Tre.mC s.kids
   simp only [bL]
   have e3:=e2.trans g3.ex
   refine ⟨fun m w3 w4 v5 v6 v7 af=>∃ q:Nat,m=s.kids.length - q/\w3=v3/\w4=.int .i64 (i:Nat)/\v6=dJ/\v7=.int .i64 (q:Nat)/\q <= s.kids.length/\fW U af v5 5 1 q (fR ((s.kids.take q).map Tre.kind)),
    ⟨_,0,rfl,rfl,rfl,rfl,rfl,by omega,by simpa [fR] using fW.nil e3⟩,?_⟩
   clear e3
   rintro m w3 w4 v5 v6 v7 dZ ⟨q,rfl,rfl,rfl,rfl,rfl,hq,g⟩
   have acA:br (some false) v6=.val (.int .i64 (aX (i+1) s.kids).length):=ni.len
   have Ht:=hv.qG g.ex
   rw [acA,al,jQ]
   refine wy (fun hq2=>?_) fun hq2=>?_
   . have hq2:q < s.kids.length:=by omega
     obtain ⟨fI,tC⟩:∃ fI,(aX (i+1) s.kids)[q]?=some fI:=⟨(aX (i+1) s.kids)[q]'(by omega),by simp⟩
     obtain ⟨u,NU,EI⟩:=lA hs.kids tC
     obtain ⟨y,hy,hyk,_⟩:=EI.lR
     refine abo ni tC ?_
     refine sw Ht hy (LV y) ?_
     refine Ds rfl rfl ?_
     refine wx g (m:=1) (l2:=[.int .u8 y.kind]) rfl rfl (by omega) (by omega) fun eW v' g5 _=>?_
     rw [cr]
     refine ⟨aW (by omega) (by omega),s.kids.length - (q+1),by omega,q+1,rfl,rfl,rfl,rfl,by simp,hq2,?_⟩
     have:(s.kids.take (q+1)).map Tre.kind=(s.kids.take q).map Tre.kind++[y.kind]:=by
      rw [lM,NU,List.map_append,hyk]; rfl
     rw [this]
     simpa [fR] using g5
   . have hq:q=s.kids.length:=by omega
     subst hq
     rw [oq] at g
     obtain ⟨x,hx,nq,_⟩:=hs.lR
     have aeA:cB v5 (s.kids.map Tre.kind).length (fR (s.kids.map Tre.kind)):=by rw [List.length_map]; exact g.sl
     have N0:=jh x (fl hx)
     refine wA ?_
     refine Wq Ht hx ?_
     cases uY:(decide ((0:Int) < ((i:Nat):Int)) && decide (x.kind=1)) with
     | true =>
       simp only [aI,show (true == false)=false from rfl,aB,aZ,az,if_true,al]
       refine ca (bad ?_ _ g.ex)
       cases hto:t.ok with
       | false=>rfl
       | true=>simp only [bX,da] at uY; exact absurd (nq ▸ uY.2) (Xi hto hs (by omega))
     | false =>
       simp only [aI,dN,aB,bq,ax]
       refine Ht.nd hx (gV (Ja x N0) ?_)
       simp only [dA,ax,az,bC,if_false,al]
       have aaq:oF x (s.kids.map Tre.kind)=false->aj R (AV.int .i64 4) dZ:=fun Kf=>by
        refine bad ?_ _ g.ex
        cases hto:t.ok with
        | false=>rfl
        | true =>
          have:=BD (Dc hto hs) hs hx
          rw [Kf] at this; cases this
       cases hf:nz x with
       | false =>
         simp only [dx,aI,show (true == false)=false from rfl,aB,aZ,az,if_true,al]
         refine ca (aaq ?_)
         unfold oF; rw [hf]; rfl
       | true =>
         simp only [cn,aI,dN,aB,bq,ax]
         refine Mf Ht hx (LV x) ?_
         refine gV (LH aeA (by simp; omega) x.kind) ?_
         simp only [dA,ax,az,bC,if_false,al]
         cases UJ:qd x.kind (s.kids.map Tre.kind) with
         | false=>exact ca (aaq (by unfold oF; rw [hf,UJ]; rfl))
         | true =>
           refine bO ?_
           rw [cr]
           refine ⟨aW (by omega) (by omega),t.flat.length - (i+1),by omega,i+1,rfl,rfl,by simp,by omega,g.ex,fun j s' x' hj eE ji=>?_⟩
           rcases gr j i with h | h
           . exact hN j s' x' h eE ji
           . have:j=i:=by omega
             subst this
             rw [hx] at ji; cases ji
             rw [eE.inj hs]
             unfold oF; rw [hf,UJ]; rfl
 . have hi:i=t.flat.length:=by omega
   subst hi
   have cS:t.ok=true:=by
    have:=CU (l:=t.flat) _ [t] 0 (gE _) ⟨[],by simp⟩ (fun j s x _ hj hs hx=>hN j s x (by simpa using hj) hs hx)
    simpa using this
   have DK:sg t=if 60 < t.deep\/24 < t.kids.length then 5 else 0:=by unfold sg; rw [if_neg (by simp [oP,cS])]
   rw [DK] at h
   clear DK bad hN
   refine Sf AY (by omega) fun b8 cz f8 m8 e3=>?_
   have hDl:=uV 0 t
   have Zb:=e2.trans e3
   simp only [bL]
   refine ⟨fun m w3 v8 v9 af=>∃ j:Nat,m=t.flat.length - j/\w3=v3/\v8=.ms b8 0 t.flat.length 1 3/\v9=.int .i64 (j:Nat)/\j <= t.flat.length/\af=cz/\∀ j' d,j' < j->(n6 0 t)[j']?=some d->¬ 60 < d,⟨_,0,rfl,rfl,rfl,rfl,by omega,rfl,fun j' d h=>by omega⟩,?_⟩
   rintro m w3 v8 v9 dZ ⟨j,rfl,rfl,rfl,rfl,hj,rfl,hD⟩
   have Ht:=hv.qG Zb
   rw [Ht.len,al]
   refine wy (fun aM=>?_) fun gq=>?_
   . have aM:j < t.flat.length:=by omega
     obtain ⟨d,hd⟩:∃ d,(n6 0 t)[j]?=some d:=⟨(n6 0 t)[j]'(by omega),by simp⟩
     rw [AE]
     refine ⟨⟨by omega,by omega,rfl⟩,?_⟩
     obtain ⟨r,hr⟩:=tI hd
     rw [iZ m8,dL,Nat.mul_one,dI,hr,bN]
     refine wA (cu (fun h6=>?_) fun h6=>?_)
     . have:60 < t.deep:=(GH t).1 ⟨d,fl hd,by omega⟩
       rw [if_pos (.inl this)] at h
       exact aj.mk (h _ Zb)
     . rw [cr]
       refine ⟨aW (by omega) (by omega),t.flat.length - (j+1),by omega,j+1,rfl,rfl,rfl,by simp,aM,rfl,fun j' d' G8 sC=>?_⟩
       rcases gr j' j with h | h
       . exact hD j' d' h sC
       . have:j'=j:=by omega
         subst this; rw [hd] at sC; cases sC; omega
   . have hj:j=t.flat.length:=by omega
     subst hj
     have hnd:¬ 60 < t.deep:=fun h6=>by
      obtain ⟨d,h1,h2⟩:=(GH t).2 h6
      obtain ⟨q,hq,Hn⟩:=List.getElem_of_mem h1
      exact hD q d (by omega) (by rw [<- Hn]; simp) h2
     refine wa (i:=0) Ht CC (by omega) fun eW v93 g5=>?_
     have hlen:br (some false) v93=.val (.int .i64 t.kids.length):=g5.sl.len
     simp only [bL,hlen,al]
     have e5:=Zb.trans g5.ex
     refine wA (cu (fun h6=>?_) fun h6=>?_)
     . rw [if_pos (.inr (by omega))] at h
       exact aj.mk (h _ e5)
     . rw [if_neg (by omega)] at h
       exact aj.mk (h _ e5)
end Go.Rip
