/- Lemmas for the proof: no conditions. -/
import Derived.Test.YtnfpmiiopiinbaaGreatDoorRipZz
import Derived.Test.YtnfpmiiopiinbaaGreatDoorRipS
import Derived.Test.YtnfpmiiopiinbaaGreatDoorRipH
import Derived.Test.YtnfpmiiopiinbaaGreatDoorRipG
import Derived.Test.YtnfpmiiopiinbaaGreatDoorRipP
set_option linter.unusedVariables false
set_option linter.unusedSimpArgs false
set_option linter.loopingSimpArgs false
namespace Go.Rip
open Go.Proofs Go.RowKit
theorem CW (k:Int):Pure K 179 [.int .u8 k] (.bool (ki k)):=by
 intro U R hR
 refine Ql ?_
 unfold Qk
 rw [dT,al]
 refine Cn (fun _=>fD ..) (aj.eq hR ?_)
 simp only [ki,AV.bool.injEq]; grind
theorem CV (k:Int):Pure K 206 [.int .u8 k] (.bool (jb k)):=by
 intro U R hR
 refine QL ?_
 unfold QK
 rw [aT,al]
 refine uW (fun _=>aT ..) (aj.eq hR ?_)
 simp only [jb,AV.bool.injEq]; grind
theorem CX (k:Int):Pure K 181 [.int .u8 k] (.bool (ey k)):=by
 intro U R hR
 refine Qp ?_
 unfold Qo
 refine (CV k).go ?_
 refine uW (fun _=>aT ..) (aj.eq hR ?_)
 simp only [jb,ey,AV.bool.injEq]; grind
theorem xy (k:Int):Pure K 185 [.int .u8 k] (.bool (cD k)):=by
 intro U R hR
 refine Qs ?_
 unfold Qq
 rw [dT,al]
 refine Cn (fun _=>fD ..) (aj.eq hR ?_)
 simp only [cD,AV.bool.injEq]; grind
theorem OJ (k:Int):Pure K 207 [.int .u8 k] (.bool (ln k)):=by
 intro U R hR
 refine QN ?_
 unfold QM
 refine (xy k).go ?_
 refine uW (fun _=>aT ..) ?_
 refine uW (fun _=>aT ..) (aj.eq hR ?_)
 simp only [cD,ln,AV.bool.injEq]; grind
theorem L7 (k c:Int):Pure K 242 [.int .u8 k,.cU [.int .u8 c]] (.bool (decide (k=c))):=by
 intro U R hR
 refine RD ?_
 unfold RC
 rw [mB,bN]
 exact fh (aj.mk hR)
theorem po (a b n:Int):Pure K 122 [.int .i64 a,.int .i64 b,.int .i64 n] (.bool (decide (a <= n/\n <= b))):=by
 intro U R hR
 refine Pe ?_
 unfold Pd
 refine wz ?_
 by_cases h:a <= n
 . simp only [h,bZ,aI,dN]
   refine dU (dU ?_)
   rw [fD]
   refine dU ?_
   simp only [az,if_true,al]
   refine aj.eq hR ?_
   simp [h]
 . simp only [h,cE,aI,show (false == true)=false from rfl,aB,aZ,az,bC,if_false,al]
   refine aj.eq hR ?_
   simp [h]
def yK:mZ->AV
 | .item=>.func (.func 179) [] []
 | .type=>.func (.func 181) [] []
 | .base=>.func (.func 206) [] []
 | .term=>.func (.func 185) [] []
 | .arg=>.func (.func 207) [] []
 | .kind c=>.func (.func 242) [] [.cU [.int .u8 c]]
theorem Y8 {c:mZ} {k:Int} {U:St} {K':AV->St->Prop} {Kp:AV->St->Prop} (h:K' (.bool (c.is k)) U):(jW K.P (yK c) [.int .u8 k]).wp K U K' Kp:=by
 cases c with
 | item=>simp only [yK,jW,show gj K.P 179=true by kernel_rfl,if_true,kO,mw,gw]; exact (CW k).go h
 | type=>simp only [yK,jW,show gj K.P 181=true by kernel_rfl,if_true,kO,mw,gw]; exact (CX k).go h
 | base=>simp only [yK,jW,show gj K.P 206=true by kernel_rfl,if_true,kO,mw,gw]; exact (CV k).go h
 | term=>simp only [yK,jW,show gj K.P 185=true by kernel_rfl,if_true,kO,mw,gw]; exact (xy k).go h
 | arg=>simp only [yK,jW,show gj K.P 207=true by kernel_rfl,if_true,kO,mw,gw]; exact (OJ k).go h
 | kind c=>simp only [yK,jW,show gj K.P 242=true by kernel_rfl,if_true,kO,mw,iX]; exact (L7 k c).go h
def my (s:ng):List AV:=[yK s.c,.int .i64 (s.least:Nat),.int .i64 (s.nL:Nat)]
def nT (l:List ng):List AV:=l.flatMap my
def lz (l:List ng):AV:=if l=[] then .aA else .vec l.length .full (nT l)
def nJ (f:fQ):List AV:=[.bool f.text,.bool f.n,.bool f.m,lz f.kids]
theorem Im (L:List ng):(nT L).length=3 * L.length:=by
 induction L with
 | nil=>rfl
 | cons t L ih =>
   have:(nT (t::L)).length=3+(nT L).length:=by simp [nT,my]; omega
   rw [this,ih,gu]; omega
theorem Da (L:List ng) (i:Nat):(nT L).drop (i * 3)=nT (L.drop i):=by
 induction L generalizing i with
 | nil=>simp [nT]
 | cons t L ih =>
   cases i with
   | zero=>simp
   | succ i =>
     rw [Nat.add_mul,show i * 3+1 * 3=3+i * 3 by omega,<- List.drop_drop,List.drop_succ_cons,<- ih]
     rfl
theorem TW {L:List ng} {i:Nat} {t:ng} (h:L[i]?=some t):∃ r,(nT L).drop (i * 3)=my t++r:=by
 rw [Da,fU (de.1 h).1]
 refine ⟨nT (L.drop (i+1)),?_⟩
 have:=(de.1 h).2
 simp [nT,this]
theorem TX (l:List ng):cB (lz l) l.length (nT l):=by
 unfold lz
 split
 . rename_i h; subst h; exact .inl ⟨rfl,rfl,rfl⟩
 . exact .inr ⟨_,rfl⟩
theorem V8 {v:AV} {ss:List ng} {s:ng} {i:Nat} {U:St} {K':AV->St->Prop} {Kp:AV->St->Prop} (hv:cB v ss.length (nT ss)) (hs:ss[i]?=some s) (hk:K' (.agg (my s)) U) :
 (au (some (200,3)) none v (.int .i64 (i:Nat))).wp K U (fun p U=>(ah (some (true,3)) p U).wp K U K' Kp) Kp:=by
 have aM:=(de.1 hs).1
 obtain ⟨c,rfl,pS⟩:=hv.at (sz:=3) (e:=200) aM
 obtain ⟨r,hr⟩:=TW hs
 rw [pS,hr]
 refine ⟨by omega,?_⟩
 rw [al,rh]
 refine ⟨by simp [my],?_⟩
 have:(my s++r).take 3=my s:=by simp [my]
 rw [this]; exact hk
theorem Fa {k:Int} {z:AV}:∀ (ks:List Int) (vs:List AV),(∀ j ∈ ks,j ≠ k)->oD .i (.int .u8 k) z true (ks.map (.int .u8)) vs=.val (.aG [z,.bool false])
 | [],vs,_=>by cases vs <;> rfl
 | j::ks,[],_=>rfl
 | j::ks,v::vs,h=>by
   have hj:¬ k=j:=fun e=>h j (by simp) e.symm
   have:iA .i (.int .u8 k) (.int .u8 j)=some false:=by simp [iA,hj]
   simp only [dV,oD,this,bC,if_false]
   exact Fa ks vs fun x hx=>h x (by simp [hx])
def IN:AV:=.agg [AV.bool false,AV.bool false,AV.bool false,AV.aA]
def OE (n:Nat):Bool:=match pb with
 | .gb ks vs=>(match oD .i (.int .u8 n) IN true ks vs with
   | .val v=>jl v (match bw n with | some f=>.aG [.agg (nJ f),.bool true] | none=>.aG [IN,.bool false])
   | _=>false)
 | _=>false
theorem LZ:∀ n:Fin 38,OE n.val=true:=by decide +kernel
end Go.Rip
namespace Go.Rip
open Go.Proofs Go.RowKit
theorem Jk (ks:List Int):(fR ks).length=ks.length:=by simp [fR]
theorem acj {U:St} {v:AV} {ks:List Int} {i e:Nat} {k:Int} {kq:AV->AV->Prop} (hv:cB v ks.length (fR ks)) (hk:ks[i]?=some k) (h:∀ L,kq (.cU L) (.int .u8 k)) :
 ad K (.bool true) (au (some (e,1)) none v (.int .i64 (i:Nat))) fun p=>ad K (.bool true) (ah (some (false,1)) p U) (kq p):=by
 have aM:=(de.1 hk).1
 obtain ⟨c,rfl,pS⟩:=hv.at (sz:=1) (e:=e) aM
 obtain ⟨r,hr⟩:=DP hk
 rw [pS,Nat.mul_one,hr]
 exact jn ⟨by omega,jn (h _)⟩
theorem aal {v:AV} {ks:List Int} {i:Nat} {e:Nat} {U:St} {K':AV->St->Prop} {Kp:AV->St->Prop} (hv:cB v ks.length (fR ks)) (hi:i <= ks.length) (hk:∀ v',cB v' (ks.drop i).length (fR (ks.drop i))->K' v' U) :
 (dt false (some (e,1)) v (some (.int .i64 (i:Nat))) none).wp K U K' Kp:=by
 rcases hv with ⟨h0,h1,rfl⟩ | ⟨c,rfl⟩
 . have iq:ks=[]:=tS.1 h0
   subst iq
   have sE:i=0:=by simpa using hi
   subst sE
   simp only [dt,dR,wp_cond,al]
   refine ⟨by simp,hk _ (.inl ⟨rfl,rfl,rfl⟩)⟩
 . rw [uM,eG,ic]
   refine ⟨by omega,?_⟩
   refine hk _ (.inr ⟨sQ c none,?_⟩)
   have:ks.length - i=(ks.drop i).length:=by rw [List.length_drop]
   simp only [dL,Nat.mul_one,this]
   rw [o4 (by rw [Jk]; exact gE _)]
   congr 1
   simp [fR,List.map_drop]
theorem Xb {ss:List ng} {i:Nat} {U:St} {K':AV->St->Prop} {Kp:AV->St->Prop} (hi:i < ss.length) (hk:∀ v',cB v' (ss.drop (i+1)).length (nT (ss.drop (i+1)))->K' v' U) :
 (dt false (some (200,3)) (lz ss) (some (.int .i64 ((i:Nat)+1))) none).wp K U K' Kp:=by
 have cV:ss ≠ []:=by intro e; subst e; simp at hi
 unfold lz
 rw [if_neg cV,uM,eG,ic]
 refine ⟨by omega,?_⟩
 refine hk _ (.inr ⟨sQ .full none,?_⟩)
 have:(ss.length:Int).toNat - ((i:Int)+1).toNat=(ss.drop (i+1)).length:=by rw [List.length_drop]; omega
 rw [this]
 congr 1
 rw [dL,o4 (by rw [Im]; omega),show ((i:Int)+1).toNat=i+1 by omega,Da]
def uA (ks:List Int) (s:ng) (rest:Nat):Nat:=((ks.take (min (ks.length - rest) s.nL)).takeWhile s.c.is).length
theorem No (ks:List Int) (s:ng) (ss:List ng):c7 ks (s::ss)=if uA ks s (ss.map (·.least)).sum < s.least then false else c7 (ks.drop (uA ks s (ss.map (·.least)).sum)) ss:=by
 rw [c7]; rfl
theorem D7 {p:Int->Bool}:∀ {l:List Int} {i:Nat},(∀ j (h:j < l.length),j < i->p l[j]=true)->i <= l.length->(i=l.length\/∃ h:i < l.length,p l[i]=false)->(l.takeWhile p).length=i
 | [],i,_,hi,_=>by simp at hi; simp [hi]
 | a::l,0,_,_,he=>by
   rcases he with he | ⟨h,he⟩
   . simp at he
   . rw [lL]; simp at he; simp [he]
 | a::l,i+1,bA,hi,he=>by
   have ha:p a=true:=bA 0 (by simp) (by omega)
   rw [lL,if_pos ha,gu]
   congr 1
   refine D7 (fun j h hj=>?_) (by simpa using hi) ?_
   . have:=bA (j+1) (by simp; omega) (by omega)
     simpa using this
   . rcases he with he | ⟨h,he⟩
     . left; simpa using he
     . right; exact ⟨by simpa using h,by simpa using he⟩
theorem Zi {U:St} {R:cO->St->Prop} {v:AV} {ks:List Int} {ss:List ng} (hv:cB v ks.length (fR ks)) (hl:ks.length <= 100000) (ni:ss.length <= 100) (nj:∀ s ∈ ss,s.least <= 1000/\s.nL <= 1000)
 (h:∀ af,dD U af->R (.ret (.bool (c7 ks ss))) af):ag K 209 [v,lz ss] U R:=by
 refine QS ?_
 unfold QR
 have hss:=TX ss
 have hlen:br (some false) (lz ss)=.val (.int .i64 ss.length):=hss.len
 rw [hlen,al]
 refine ⟨fun m v0 v1 v11 v12 bP af=>∃ (i:Nat) (ks':List Int),m=ss.length - i/\v1=lz ss/\v11=lz ss/\v12=.int .i64 ss.length/\bP=.int .i64 (i:Nat)/\i <= ss.length/\cB v0 ks'.length (fR ks')/\ks'.length <= ks.length/\c7 ks' (ss.drop i)=c7 ks ss/\dD U af,
  ⟨_,0,ks,rfl,rfl,rfl,rfl,rfl,by omega,hv,gE _,rfl,dD.refl _⟩,?_⟩
 rintro m v0 v1 v11 v12 bP aQ ⟨i,ks',rfl,rfl,rfl,rfl,rfl,hi,U2,jQ,oX,e1⟩
 refine wy (fun aM=>?_) fun gq=>?_
 . have aM:i < ss.length:=by omega
   obtain ⟨s,hs⟩:∃ s,ss[i]?=some s:=⟨ss[i],by simp [aM]⟩
   have Ki:=nj s (fl hs)
   have wO:ss.drop i=s::ss.drop (i+1):=by
    rw [fU aM]
    have:=(de.1 hs).2
    rw [this]
   refine V8 hss hs ?_
   rw [df]
   intro b6 uo
   have m6:(aQ.new b6 (.box [AV.ez,AV.int .i64 0,AV.int .i64 0])).box b6=some [AV.ez,AV.int .i64 0,AV.int .i64 0]:=aS
   have e2:=e1.new uo (x:=.box [AV.ez,AV.int .i64 0,AV.int .i64 0])
   have f6:=e1.fresh uo.1
   generalize aQ.new b6 (.box [AV.ez,AV.int .i64 0,AV.int .i64 0])=bg at *
   rw [dP m6]
   refine ⟨⟨rfl,rfl,by simp⟩,?_⟩
   have g6:(bg.set b6 (.box (aK [AV.ez,AV.int .i64 0,AV.int .i64 0] 0 (aC (.agg (my s)))))).box b6=some (my s):=by rw [bD]; rfl
   have e3:=e2.set f6 (x:=.box (aK [AV.ez,AV.int .i64 0,AV.int .i64 0] 0 (aC (.agg (my s)))))
   generalize bg.set b6 (.box (aK [AV.ez,AV.int .i64 0,AV.int .i64 0] 0 (aC (.agg (my s)))))=cz at *
   rw [cr]
   refine ⟨aW (by omega) (by omega),?_⟩
   refine Xb aM fun v21 h21=>?_
   have Z4:br (some false) v21=.val (.int .i64 (ss.drop (i+1)).length):=h21.len
   rw [Z4,al]
   generalize Lw:ss.drop (i+1)=rest at *
   have hrl:rest.length <= 100:=by rw [<- Lw,List.length_drop]; omega
   have hrm:∀ s ∈ rest,s.least <= 1000:=fun s hs=>(nj s (by rw [<- Lw] at hs; exact List.mem_of_mem_drop hs)).1
   have aaf:∀ n,((rest.take n).map (·.least)).sum <= 1000 * n:=by
    have:∀ (l:List ng) (n:Nat),(∀ s ∈ l,s.least <= 1000)->((l.take n).map (·.least)).sum <= 1000 * n:=by
     intro l
     induction l with
     | nil=>intro n _; simp
     | cons a l ih =>
       intro n hm
       cases n with
       | zero=>simp
       | succ n =>
         have:=ih n fun s hs=>hm s (by simp [hs])
         have:=hm a (by simp)
         simp only [List.take_succ_cons,dV,List.sum_cons]; omega
    exact fun n=>this rest n hrm
   refine ⟨fun m w0 w1 w6 w7 RW RX FM w21 w22 w23 af=>∃ j:Nat,m=rest.length - j/\w0=v0/\w1=lz ss/\w6=.box b6 0/\w7=.int .i64 (((rest.take j).map (·.least)).sum:Nat)/\RW=lz ss/\RX=.int .i64 ss.length/\FM=.int .i64 (i:Nat)/\w21=v21/\w22=.int .i64 rest.length/\w23=.int .i64 (j:Nat)/\j <= rest.length/\af.box b6=some (my s)/\dD U af,
    ⟨_,0,rfl,rfl,rfl,rfl,rfl,rfl,rfl,rfl,rfl,rfl,rfl,by omega,g6,e3⟩,?_⟩
   clear e2 e3 g6 m6 uo
   rintro m w0 w1 w6 w7 RW RX FM w21 w22 w23 dZ ⟨j,rfl,rfl,rfl,rfl,rfl,rfl,rfl,rfl,rfl,rfl,rfl,hj,g6,e4⟩
   refine wy (fun Bw=>?_) fun aem=>?_
   . have Bw:j < rest.length:=by omega
     obtain ⟨s2,rT⟩:∃ s2,rest[j]?=some s2:=⟨rest[j],by simp [Bw]⟩
     refine V8 h21 rT ?_
     rw [df]
     intro b9 J8
     have m9:(dZ.new b9 (.box [AV.ez,AV.int .i64 0,AV.int .i64 0])).box b9=some [AV.ez,AV.int .i64 0,AV.int .i64 0]:=aS
     have e5:=e4.new J8 (x:=.box [AV.ez,AV.int .i64 0,AV.int .i64 0])
     have f9:=e4.fresh J8.1
     have n9:=J8.cH g6
     have UA:=(bE J8 (x:=.box [AV.ez,AV.int .i64 0,AV.int .i64 0])).bo g6
     generalize dZ.new b9 (.box [AV.ez,AV.int .i64 0,AV.int .i64 0])=eW at *
     rw [dP m9]
     refine ⟨⟨rfl,rfl,by simp⟩,?_⟩
     have g9:(eW.set b9 (.box (aK [AV.ez,AV.int .i64 0,AV.int .i64 0] 0 (aC (.agg (my s2)))))).box b9=some (my s2):=by rw [bD]; rfl
     have ad5:(eW.set b9 (.box (aK [AV.ez,AV.int .i64 0,AV.int .i64 0] 0 (aC (.agg (my s2)))))).box b6=some (my s):=by rw [bf n9]; exact UA
     have e6:=e5.set f9 (x:=.box (aK [AV.ez,AV.int .i64 0,AV.int .i64 0] 0 (aC (.agg (my s2)))))
     generalize eW.set b9 (.box (aK [AV.ez,AV.int .i64 0,AV.int .i64 0] 0 (aC (.agg (my s2)))))=oU at *
     simp only [ct,al,dI]
     refine dj g9 rfl ?_
     have gl:=aaf j
     have mD:=hrm s2 (fl rT)
     rw [cr]
     refine ⟨aW (by omega) (by omega),?_⟩
     rw [cr]
     refine ⟨aW (by omega) (by omega),rest.length - (j+1),by omega,j+1,rfl,rfl,rfl,rfl,?_,rfl,rfl,rfl,rfl,rfl,by simp,Bw,ad5,e6⟩
     have:rest.take (j+1)=rest.take j++[s2]:=by rw [lM,rT]; rfl
     rw [this]; simp
   . have hj:j=rest.length:=by omega
     subst hj
     rw [oq]
     have gl:=aaf rest.length
     rw [oq] at gl
     generalize aeB:(rest.map (·.least)).sum=sm at *
     have acu:c7 ks' (s::rest)=if uA ks' s sm < s.least then false else c7 (ks'.drop (uA ks' s sm)) rest:=by rw [No,aeB]
     rw [wO,acu] at oX
     refine ⟨fun m u0 w1 w6 w7 FL RW RX FM af=>∃ q:Nat,m=ks'.length - q/\u0=w0/\w1=lz ss/\w6=.box b6 0/\w7=.int .i64 (sm:Nat)/\FL=.int .i64 (q:Nat)/\RW=lz ss/\RX=.int .i64 ss.length/\FM=.int .i64 (i:Nat)/\q <= min (ks'.length - sm) s.nL/\(∀ (p:Nat) (hp:p < ks'.length),p < q->s.c.is ks'[p]=true)/\af.box b6=some (my s)/\dD U af,
      ⟨_,0,rfl,rfl,rfl,rfl,rfl,rfl,rfl,rfl,rfl,by omega,fun p hp h=>by omega,g6,e4⟩,?_⟩
     clear g6 e4
     rintro m u0 w1 w6 w7 FL RW RX FM eW ⟨q,rfl,rfl,rfl,rfl,rfl,rfl,rfl,rfl,rfl,hq,bA,g6,e5⟩
     intro jj EB
     have Lu:br (some false) u0=.val (.int .i64 ks'.length):=U2.len
     have stop:uA ks' s sm=q->jj u0 (lz ss) (.box b6 0) (.int .i64 (sm:Nat)) (.int .i64 (q:Nat)) (lz ss) (.int .i64 ss.length) (.int .i64 (i:Nat)) (.bool false) eW:=fun hmq=>by
      refine EB _ _ _ _ _ _ _ _ _ _ ?_
      refine bO ?_
      simp only [ct,al,dI]
      refine dj g6 rfl ?_
      rw [hmq] at oX
      refine wy (fun Kd=>?_) fun Kd=>?_
      . rw [if_pos (by omega)] at oX
        refine aj.mk ?_
        rw [oX]; exact h _ e5
      . rw [if_neg (by omega)] at oX
        refine aal U2 (by omega) fun ju h61=>?_
        rw [cr]
        refine ⟨aW (by omega) (by omega),ss.length - (i+1),by omega,i+1,ks'.drop q,rfl,rfl,rfl,rfl,by simp,aM,h61,by simp; omega,?_,e5⟩
        rw [Lw]; exact oX
     have go:q < min (ks'.length - sm) s.nL->(∀ k,ks'[q]?=some k->s.c.is k=true)->jj u0 (lz ss) (.box b6 0) (.int .i64 (sm:Nat)) (.int .i64 (q:Nat)) (lz ss) (.int .i64 ss.length) (.int .i64 (i:Nat)) (.bool true) eW:=fun hql hqs=>by
      refine EB _ _ _ _ _ _ _ _ _ _ ?_
      refine ca ?_
      rw [cr]
      refine ⟨aW (by omega) (by omega),ks'.length - (q+1),by omega,q+1,rfl,rfl,rfl,rfl,rfl,by simp,rfl,rfl,rfl,by omega,fun p hp UY=>?_,g6,e5⟩
      rcases gr p q with aM | gq
      . exact bA p hp aM
      . have:p=q:=by omega
        subst this; exact hqs _ (by simp [hp])
     have nL:q=min (ks'.length - sm) s.nL->uA ks' s sm=q:=fun Hn=>by
      unfold uA
      rw [<- Hn]
      refine D7 (fun p hp UY=>?_) (by simp; omega) (.inl (by simp; omega))
      have:=bA p (by simp at hp; omega) UY
      simpa using this
     simp only [Lu,ax,gX,gQ,lJ]
     refine ⟨aW (by omega) (by omega),?_⟩
     rw [a7,ax]
     by_cases h1:(q:Int) < (ks'.length:Int) - (sm:Nat)
     . simp only [h1,bZ,aI,dN]
       refine dU (Zq (GZ g6 rfl ?_))
       rw [a7]
       refine dU ?_
       simp only [az,if_true,ax]
       by_cases h2:(q:Int) < (s.nL:Nat)
       . have hqk:q < ks'.length:=by omega
         have hx:ks'[q]?=some ks'[q]:=by simp [hqk]
         simp only [h2,bZ,aI,dN]
         refine Zq (GZ g6 rfl (dU (dU (acj U2 hx fun L=>?_))))
         refine ca ?_
         refine Y8 ⟨fun b hb=>rfl,?_⟩
         simp only [az,if_true,ax]
         cases hc:s.c.is ks'[q] with
         | true=>exact go (by omega) fun k hk=>by rw [hx] at hk; cases hk; exact hc
         | false =>
           refine stop ?_
           unfold uA
           refine D7 (fun p hp UY=>?_) (by simp; omega) (.inr ⟨by simp; omega,by simpa using hc⟩)
           have:=bA p (by simp at hp; omega) UY
           simpa using this
       . simp only [h2,cE,aI,show (false == true)=false from rfl,aB,aZ,az,bC,if_false,ax]
         exact bO (stop (nL (by omega)))
     . simp only [h1,cE,aI,show (false == true)=false from rfl,aB,aZ,az,bC,if_false,ax]
       exact bO (stop (nL (by omega)))
 . have hi:i=ss.length:=by omega
   subst hi
   rw [List.drop_length] at oX
   have Lu:br (some false) v0=.val (.int .i64 ks'.length):=U2.len
   rw [Lu,al]
   refine fh (aj.eq (h _ e1) ?_)
   rw [<- oX,c7,AV.bool.injEq,o3,List.isEmpty_iff,da]
   constructor
   . intro h; exact tS.1 (by omega)
   . rintro rfl; rfl
end Go.Rip
namespace Go.Rip
open Go.Proofs Go.RowKit
def HC (l:List Nd) (en:Int):Nat->Nat->Nat
 | 0,p=>p
 | f+1,p=>match l[p]? with
   | some x=>if (p:Int) < en/\0 < x.size then HC l en f (p+x.size.toNat) else p
   | none=>p
def behind (l:List Nd) (p:Nat) (ks:List Nat):Nat:=ks.foldl (fun _ k=>k+fV l k) p
theorem AH (l:List Nd) (p:Nat) (ks:List Nat) (k:Nat):behind l p (ks++[k])=k+fV l k:=by simp [behind]
theorem EX (l:List Nd) (en:Int):∀ (f p:Nat),behind l p (fy l en f p)=HC l en f p
 | 0,p=>rfl
 | f+1,p=>by
   simp only [fy,HC]
   cases hx:l[p]? with
   | none=>rfl
   | some x =>
     simp only
     by_cases h:(p:Int) < en/\0 < x.size
     . rw [if_pos h,if_pos h,<- EX l en f]
       have:fV l p=x.size.toNat:=by unfold fV; rw [hx]; rfl
       simp only [behind,List.foldl_cons,this]
     . rw [if_neg h,if_neg h]; rfl
theorem EY {l:List Nd} (hs:yz l) {en:Nat} (ZQ:en <= l.length):∀ (f p:Nat),HC l en f p=oN l en f p
 | 0,p=>rfl
 | f+1,p=>by
   simp only [HC]
   by_cases hp:p < en
   . have aM:p < l.length:=by omega
     have hx:l[p]?=some l[p]:=by simp [aM]
     have:=hs.2.2 p _ hx
     rw [s9 hx hp,hx]
     simp only
     rw [if_pos ⟨by omega,by omega⟩]
     exact EY hs ZQ f _
   . rw [ta hp]
     split
     . rw [if_neg (fun h=>hp (by omega))]
     . rfl
def iB (l:List Nd) (ks:List Nat):List Int:=ks.map fun k=>((l[k]?.map Nd.kind).getD 0)
def jA (l:List Nd) (n:Nat) (x:Nd):Bool:=match bw x.kind with
 | none=>false
 | some f=>decide (1 <= x.size/\x.size <= (l.length:Int) - n) && (kr x f && ((fy l ((n:Int)+x.size) l.length (n+1)).all (fun k=>decide (1 <= fV l k/\(k:Int)+fV l k <= n+x.size)) &&
    (decide (((behind l (n+1) (fy l ((n:Int)+x.size) l.length (n+1)):Nat):Int)=n+x.size) && c7 (iB l (fy l ((n:Int)+x.size) l.length (n+1))) f.kids)))
theorem Fb {l:List Nd} {n:Nat} {s:Tre} {x:Nd} (hs:cQ l n s) (hx:l[n]?=some x):jA l n x=oF x (s.kids.map Tre.kind):=by
 obtain ⟨y,hy,_,eH,_⟩:=hs.lR
 rw [hx] at hy; cases hy
 have hle:=hs.le
 have pE:=s.du
 have hk:fy l ((n:Int)+x.size) l.length (n+1)=aX (n+1) s.kids:=by rw [eH]; exact xe hs
 have yZ:=jm s
 have gD:∀ (ts:List Tre) (p:Nat),oV l p ts->(aX p ts).all (fun k=>decide (1 <= fV l k/\(k:Int)+fV l k <= (p:Int)+(Tre.bQ ts).length))=true/\behind l p (aX p ts)=p+(Tre.bQ ts).length/\iB l (aX p ts)=ts.map Tre.kind:=by
  intro ts
  induction ts with
  | nil=>intro p _; simp [aX,behind,iB]
  | cons t ts ih =>
    intro p pG
    obtain ⟨z,hz,N2,vS,_⟩:=pG.head.lR
    have htp:=t.du
    have Kh:fV l p=t.flat.length:=by unfold fV; rw [hz]; simp; omega
    obtain ⟨i1,i2,i3⟩:=ih _ pG.tail
    refine ⟨?_,?_,?_⟩
    . simp only [aX,List.all_cons,bX,da,Kh,Tre.dh,cZ]
      refine ⟨⟨by omega,by omega⟩,?_⟩
      rw [ep] at i1 ⊢
      intro k hk
      have:=i1 k hk
      simp only [da] at this ⊢
      omega
    . simp only [aX,behind,List.foldl_cons,Kh]
      have:behind l (p+t.flat.length) (aX (p+t.flat.length) ts)=p+(Tre.bQ (t::ts)).length:=by rw [i2]; simp; omega
      exact this
    . simp only [aX,iB,dV,hz,Option.map_some,Option.getD_some,N2]
      congr 1
 obtain ⟨h1,h2,h3⟩:=gD s.kids (n+1) hs.kids
 unfold jA oF qd
 cases hf:bw x.kind with
 | none=>simp
 | some f =>
   simp only
   rw [hk,Er hf,h2,h3]
   have e1:decide (1 <= x.size/\x.size <= (l.length:Int) - n)=true:=by rw [da]; omega
   have e2:(aX (n+1) s.kids).all (fun k=>decide (1 <= fV l k/\(k:Int)+fV l k <= n+x.size))=true:=by
    rw [ep] at h1 ⊢
    intro k hk
    have:=h1 k hk
    simp only [da] at this ⊢
    omega
   have e3:decide (((n+1+(Tre.bQ s.kids).length:Nat):Int)=n+x.size)=true:=by rw [da]; omega
   rw [e1,e2,e3]; simp
theorem A9 {l:List Nd} (cV:l ≠ []) (h0:mR l=l.length) (h:∀ n x,l[n]?=some x->jA l n x=true):wE l:=by
 have vQ:yz l:=by
  refine ⟨cV,h0,fun i x hx=>?_⟩
  have:=h i x hx
  unfold jA at this
  split at this
  . cases this
  . simp only [bX,da] at this
    exact this.1
 refine ⟨vQ,fun i x hx=>?_⟩
 have hq:=h i x hx
 have NR:=vQ.2.2 i x hx
 unfold jA at hq
 split at hq
 . cases hq
 . simp only [bX,da] at hq
   have hb:=hq.2.2.2.1
   rw [EX] at hb
   have e:((i:Int)+x.size)=((i+x.size.toNat:Nat):Int):=by omega
   rw [e] at hb
   rw [<- EY vQ (by omega)]
   exact_mod_cast hb
theorem Fi {l:List Nd} {x0:Nd} (h0:l[0]?=some x0):(x0.kind=1/\x0.size=l.length/\∀ n x,l[n]?=some x->jA l n x=true) ↔ ∃ t:Tre,l=t.flat/\t.kind=1/\t.ok=true:=by
 constructor
 . rintro ⟨h1,h2,h3⟩
   have cV:l ≠ []:=by intro e; subst e; simp at h0
   have uu:mR l=l.length:=by
    cases l with
    | nil=>exact absurd rfl cV
    | cons y r=>simp at h0; subst h0; exact h2
   obtain ⟨t,rfl⟩:=(uL l).1 (A9 cV uu h3)
   obtain ⟨y,hy,hk,_⟩:=(cQ.whole t).lR
   rw [h0] at hy; cases hy
   refine ⟨t,rfl,by rw [<- hk,h1],?_⟩
   have:=CU (l:=t.flat) _ [t] 0 (gE _) ⟨[],by simp⟩ (fun j s x _ hj hs hx=>by rw [<- Fb hs hx]; exact h3 j x hx)
   simpa using this
 . rintro ⟨t,rfl,hk,ho⟩
   obtain ⟨y,hy,hyk,hys,_⟩:=(cQ.whole t).lR
   rw [h0] at hy; cases hy
   refine ⟨by rw [hyk,hk],hys,fun n x hx=>?_⟩
   obtain ⟨⟨s,_,hs,_⟩,_⟩:=place t (de.1 hx).1
   rw [Fb hs hx]
   exact BD (Dc ho hs) hs hx
theorem wI {l:List Nd} (h9:¬ 900 < l.length) (h:¬ ∃ t:Tre,l=t.flat/\t.kind=1/\t.ok=true):gY l=4:=by
 unfold gY
 rw [if_neg h9]
 cases ht:xP l with
 | none=>rfl
 | some t =>
   have:=RR ht
   subst this
   show sg t=4
   unfold sg
   rw [if_pos]
   by_cases hk:t.kind=1
   . right
     cases ho:t.ok with
     | false=>rfl
     | true=>exact absurd ⟨t,rfl,hk,ho⟩ h
   . exact .inl hk
theorem JV {c:UInt8} (h:cq c=true):iI c=true/\c.toNat ≠ 32/\c.toNat ≠ 10/\c.toNat ≠ 126:=by
 simp only [cq,eA,jx,wY,jI,da] at h
 simp only [iI,da]
 omega
theorem xk {s:aY} (h:fA s=true):mO s=.ok [⟨1,s,0⟩]:=by
 have hlen:=Jp h
 unfold fA at h
 rw [da] at h
 rcases p5 h with ⟨_,_,_,⟨c,r,e,hc⟩,bA⟩ | h' | h' | h'
 . have DK:mI s=(0,0):=by
    unfold mI
    rw [if_neg (by omega)]
    have:s.findIdx? (fun c=>!iI c)=none:=by
     rw [List.findIdx?_eq_none_iff]
     intro x hx
     rw [ep] at bA
     have:=JV (bA x hx)
     simp [this.1]
    rw [this]
   unfold mO
   rw [DK]
   simp only [ne_eq,not_true,if_false]
   obtain ⟨n,hn⟩:∃ n,s.length=n+1:=⟨r.length,by rw [e]; simp⟩
   rw [hn,fS]
   subst e
   have afO:=JV (show cq c=true by rw [ep] at bA; exact bA c (by simp))
   simp only [dQ]
   rw [if_neg (by omega),if_neg (by omega),h]
   simp only [ne_eq,not_true,if_false,kJ,show ¬ ((0:Nat)=900) by omega,dI,mw]
   have hn':r.length=n:=by simpa using hn
   cases n with
   | zero=>simp only [fS]
   | succ n =>
     rw [fS,List.drop_of_length_le (by simp)]
 . omega
 . omega
 . omega
where
 Jp {s:aY} (h:fA s=true):s.length <= 12:=by
  unfold fA at h
  rw [da] at h
  rcases p5 h with h | h | h | h
  . exact h.2.2.1
  . omega
  . omega
  . omega
theorem L9 (s:aY) (hs:s.length <= 3000):Pure K 208 [.str s] (.bool (fA s)):=by
 intro U R hR
 refine QP ?_
 unfold QO
 refine (JL s hs).go ?_
 cases hl:mO s with
 | bad p e =>
   have hn:fA s=false:=by
    cases h:fA s with
    | false=>rfl
    | true=>rw [xk h] at hl; cases hl
   rw [hn] at hR
   have he:e ≠ 0:=by
    unfold mO at hl
    split at hl
    split at hl
    . rename_i he; cases hl; exact he
    . exact uy _ _ _ _ hl
   simp only [r9,bH,List.drop,bN,aT,al,he,cE,aI,show (false == true)=false from rfl,aB,aZ,az,bC,if_false]
   exact aj.mk hR
 | ok L =>
   simp only [r9,bH,List.drop,bN,aT,al,bZ,aI,dN]
   have rU:=Ua L
   have hlen:br (some false) (tW L)=.val (.int .i64 L.length):=rU.len
   refine dU ?_
   rw [hlen]
   refine dU ?_
   rw [aT]
   refine dU ?_
   simp only [az,if_true,al]
   by_cases h1:L.length=1
   . match L,h1 with
     | [t],_ =>
       have jF:wF t:=(Wz hl).1 t (by simp)
       have tok:∀ (o:Nat) (c:AV) (kq:AV->Prop),(lB t)[o]?=some c->kq c->ad K (.bool true) (au (some (51,3)) none (tW [t]) (.int .i64 0)) fun a=>ad K (.bool true) (ae (some o) a) fun b=>ad K (.bool true) (ah (some (false,1)) b U) kq:=fun o c kq hc hk=>by
        obtain ⟨r',tG⟩:=Bp hc []
        refine jn ⟨by simp,?_⟩
        refine jn ?_
        simp only [Int.toNat_zero,Nat.zero_mul,dQ,dB,ax]
        refine jn ?_
        rw [oo,show eP [t]=lB t++[] from rfl,tG,iE]; exact hk
       simp only [gu,kJ,dI,show ((1:Nat):Int)=1 from rfl,bZ,aI,dN]
       refine dU (tok 0 (.int .u8 t.k) _ rfl ?_)
       rw [aT]
       refine dU ?_
       simp only [az,if_true,al]
       by_cases hk:(t.k:Int)=1
       . simp only [hk,bZ,aI,dN]
         refine dU (tok 1 (.str t.s) _ rfl (dU ?_))
         rw [fX]
         refine dU ?_
         simp only [az,if_true,al]
         refine aj.eq hR ?_
         rw [AV.bool.injEq,o3,da]
         constructor
         . intro h
           have:=jF.2
           rw [show t.k=1 by omega] at this
           rw [<- h]; unfold fA; rw [this]; simp
         . intro h
           rw [xk h] at hl
           cases hl; rfl
       . simp only [hk,cE,aI,show (false == true)=false from rfl,aB,aZ,az,bC,if_false,al]
         refine aj.eq hR ?_
         cases h:fA s with
         | false=>rfl
         | true=>rw [xk h] at hl; cases hl; exact absurd rfl hk
   . have tq:¬ (L.length:Int)=1:=by omega
     simp only [tq,cE,aI,show (false == true)=false from rfl,aB,aZ,az,bC,if_false,al]
     refine aj.eq hR ?_
     cases h:fA s with
     | false=>rfl
     | true=>rw [xk h] at hl; cases hl; exact absurd rfl h1
where
 Ua (l:List Tk):cB (tW l) l.length (eP l):=by
  unfold tW
  split
  . rename_i h; subst h; exact .inl ⟨rfl,rfl,rfl⟩
  . exact .inr ⟨_,rfl⟩
 uy:∀ (f:Nat) (s:aY) (p:Nat) (l:List Tk) {q:Nat} {e:Int},fS f s p l=.bad q e->e ≠ 0
  | 0,s,p,l,q,e,h=>by simp [fS] at h
  | f+1,s,p,l,q,e,h=>by
    simp only [fS] at h
    split at h
    . cases h
    . split at h
      . exact uy f s _ l h
      . split at h
        . exact uy f s _ l h
        . split at h
          . rename_i he; cases h; exact he
          . split at h
            . cases h; omega
            . exact uy f s _ _ h
end Go.Rip
