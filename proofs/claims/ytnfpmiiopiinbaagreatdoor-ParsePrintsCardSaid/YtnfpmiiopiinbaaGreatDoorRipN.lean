/- Lemmas for the proof: no conditions. -/
import Derived.Test.YtnfpmiiopiinbaaGreatDoorRipZz
import Derived.Test.YtnfpmiiopiinbaaGreatDoorRipM
import Derived.Test.YtnfpmiiopiinbaaGreatDoorRipF
import Derived.Test.YtnfpmiiopiinbaaGreatDoorRipG
import Derived.Test.YtnfpmiiopiinbaaGreatDoorRipH
import Derived.Test.YtnfpmiiopiinbaaGreatDoorRipE
set_option linter.unusedVariables false
set_option linter.unusedSimpArgs false
set_option linter.loopingSimpArgs false
namespace Go.Rip
open Go.RowKit
structure Rx where
 L:List Tk
 E:Nat
 tv:AV
 tr:cB tv L.length (eP L)
 ok:∀ t ∈ L,wF t
 small:L.length <= 900
def rd (X:Rx) (i:Nat):List AV:=[X.tv,.int .i64 i,.int .i64 X.E,L5,DJ]
def flt (X:Rx) (i:Nat):AV:=.iface 136 (.agg [.int .i64 (nw X.L X.E i)])
theorem cB.len {v:AV} {n:Nat} {cs:List AV} (h:cB v n cs):br (some false) v=.val (.int .i64 n):=by
 rcases h with ⟨rfl,rfl,rfl⟩ | ⟨c,rfl⟩ <;> rfl
theorem cB.at {v:AV} {n:Nat} {cs:List AV} (h:cB v n cs) {sz e j:Nat} (hj:j < n):∃ c,v=.vec n c cs/\au (some (e,sz)) none v (.int .i64 (j:Int))=.cond (0 <= (j:Int)/\(j:Int) < n) (.val (.cU (cs.drop (j * sz)))):=by
 rcases h with ⟨rfl,rfl,rfl⟩ | ⟨c,rfl⟩
 . omega
 . exact ⟨c,rfl,by simp⟩
theorem AL:∀ i,closed (K.yT i)=true:=fun i=>by
 show closed (if i=0 then .cU vw else if i=7 then .cU wg else .any)=true
 split
 . kernel_rfl
 . split
   . kernel_rfl
   . rfl
theorem Pure.of {f:Nat} {args:List AV} {x:AV} (hargs:cK args=true) (hx:closed x=true) (hr:∀ U,resolve 5 U x=x)
 (h:∀ R:cO->St->Prop,(∀ af,R (.ret x) af)->ag K f args (bJ ⟨.e,0⟩) R):Pure K f args x :=
 Pure.Ar AL hargs hx 5 (h _ fun af=>⟨x,rfl,hr af⟩)
section
variable {X:Rx} {r i:Nat} {U:St} {R:cO->St->Prop}
end
end Go.Rip
namespace Go.Rip
open Go.Proofs Go.RowKit
section
variable {X:Rx} {r i:Nat} {U:St} {R:cO->St->Prop}
def knC (kind:Int) (text:aY) (n m at_:Int) (kv:AV):List AV:=[.int .u8 kind,.str text,.int .i64 n,.int .i64 m,.int .i64 at_,.int .i64 0,kv]
def Grow (U:St) (v:AV) (e:TypeId) (sz n:Nat) (l:List AV):Prop:=(n=0/\l=[]/\v=.aA)\/∃ τ,v=.vec n (.own τ) l/\U.tok τ=some ⟨n,e,sz⟩/\l.length=n * sz
def Xt (aw:St) (v:AV):Prop:=∀ n τ l,v=.vec n (.own τ) l->aw.live τ=none
theorem Dr {e sz n m:Nat} {v y:AV} {l l2:List AV} {K':AV->St->Prop} {Kp:AV->St->Prop} (hg:Grow U v e sz n l) (hy:pL U y=some (m,l2)) (hl:l2.length=m * sz) (hm:0 < m) (hb:n+m <= 4294967296) (h0:n=0->v=.aA)
 (h:∀ af v',Grow af v' e sz (n+m) (l++l2)->(∀ b x,(∀ n l,v ≠ .vec n (.own b) l)->U.live b=some x->af.live b=some x)->(∀ n τ l,v'=.vec n (.own τ) l->U.live τ=none\/∃ n l,v=.vec n (.own τ) l)->K' v' af):(eu (some (e,sz)) false v y U).wp K U K' Kp:=by
 rcases hg with ⟨rfl,rfl,rfl⟩ | ⟨τ,rfl,ht,Cy⟩
 . have NN:m ≠ 0:=by omega
   simp only [eu,hy,if_neg NN,bC,if_false,wp_cond]
   refine ⟨hl,by omega,fun b eT=>?_⟩
   refine h _ _ (.inr ⟨b,by simp [NV.at],by rw [dI]; exact Dh,by simp [hl]⟩) (fun c x hc hx=>(bE eT) c x hx) fun n τ l hv=>?_
   simp only [NV.at,AV.vec.injEq,nY.own.injEq] at hv
   exact .inl (hv.2.1 ▸ eT.1)
 . have y7:n ≠ 0:=fun e=>by have:=h0 e; cases this
   simp only [eu,hy,wp_cond]
   refine ⟨hl,⟨ht,Cy,hb⟩,fun b eT=>?_⟩
   refine h _ _ (.inr ⟨b,rfl,Dh,by simp [hl,Cy,Nat.add_mul]⟩) (fun c x hc hx=>?_) fun n' Bj l' hv=>?_
   . refine (bE eT) c x ?_
     have cV:c ≠ τ:=fun e=>hc n l (by rw [e])
     show (U.del τ).live c=some x
     rw [kD,if_neg cV]; exact hx
   . simp only [NV.at,AV.vec.injEq,nY.own.injEq] at hv
     have hf:=eT.1
     rw [<- hv.2.1]
     by_cases e:b=τ
     . subst e; exact .inr ⟨_,_,rfl⟩
     . left
       have:(U.del τ).live b=none:=hf
       rw [kD,if_neg e] at this; exact this
structure Mk (aw U:St) (r k:Nat) (kind:Int) (text:aY) (n m at_:Int) (ks:List AV):Prop where
 box:∃ kv,U.box k=some (knC kind text n m at_ kv)/\Grow U kv 87 1 ks.length ks/\Xt aw kv/\(ks=[]->kv=.aA)
 new:aw.live k=none
 ne:k ≠ r
inductive p7:Bool->List AV->List Nd->Prop
 | mk {kind:Int} {text:aY} {n m at_:Int} {kv:AV} {ks:List AV} {l:List Nd}:p7 true ks l->(ks=[]/\kv=.aA\/∃ c,kv=.vec ks.length c ks)->p7 false [.cU (knC kind text n m at_ kv)] (node kind text n m at_ l)
 | nil:p7 true [] []
 | cons {a:AV} {ks:List AV} {l l':List Nd}:p7 false [a] l->p7 true ks l'->p7 true (a::ks) (l++l')
theorem p7.one {a:AV} {l:List Nd} (k:p7 false [a] l):p7 true [a] l:=by simpa using p7.cons k p7.nil
section
variable {X:Rx} {r i j k:Nat} {aw U af:St} {R:cO->St->Prop} {kind:Int} {text:aY} {n m at_:Int} {ks:List AV}
theorem Mk.JR {l:List AV} (M:Mk aw U r k kind text n m at_ ks) (a:uc r l U af) {l':List AV} (hr:U.box r=some l'):Mk aw af r k kind text n m at_ ks:=by
 obtain ⟨kv,h1,h2,h3,h4⟩:=M.box
 refine ⟨⟨kv,a.ex.bo M.ne h1,?_,h3,h4⟩,M.new,M.ne⟩
 rcases h2 with h2 | ⟨τ,e,ht,hl⟩
 . exact .inl h2
 . exact .inr ⟨τ,e,a.ex.tok (gg hr ht).symm ht,hl⟩
end
end
end Go.Rip
namespace Go.Rip
open Go.Proofs Go.RowKit
structure Out (X:Rx) (r:Nat) (aw:St) (R:cO->St->Prop) (p:PR (List Nd)):Prop where
 ok:∀ ns j,p=.ok ns j->j <= X.L.length->∀ a af,p7 false [a] ns->uc r (rd X j) aw af->R (.ret a) af
 bad:∀ j,p=.bad j->∀ af,uc r (rd X j) aw af->R (.panic (flt X j)) af
def Ct (X:Rx) (f:FuncId) (i:Nat) (p:PR (List Nd)):Prop:=∀ (r:Nat) (U:St) (R:cO->St->Prop),U.box r=some (rd X i)->Out X r U R p->ag K f [.box r 0] U R
structure Sk (X:Rx) (aw:St) (r k i:Nat) (kind:Int) (text:aY) (n m at_:Int) (l:List Nd) (U:St):Prop where
 A:uc r (rd X i) aw U
 hi:i <= X.L.length
 M:∃ ks,Mk aw U r k kind text n m at_ ks/\p7 true ks l/\ks.length <= i
section
variable {X:Rx} {aw U:St} {r k i:Nat} {kind:Int} {text:aY} {n m at_:Int} {l:List Nd} {R:cO->St->Prop} {K':AV->St->Prop} {Kp:AV->St->Prop} {w:aY} {f:FuncId}
theorem Sk.JR (S:Sk X aw r k i kind text n m at_ l U) {af:St} {j:Nat} (A:uc r (rd X j) U af) (hj:j <= X.L.length) (qg:i <= j):Sk X aw r k j kind text n m at_ l af:=by
 obtain ⟨ks,h1,h2,h3⟩:=S.M
 exact ⟨S.A.trans A,hj,ks,h1.JR A S.A.box,h2,by omega⟩
theorem Out.JR {af:St} {p:PR (List Nd)} {L:List AV} (O:Out X r U R p) (A:uc r L U af):Out X r af R p :=
 ⟨fun ns j h hj a bg k A2=>O.ok ns j h hj a bg k (A.trans A2),fun j h bg A2=>O.bad j h bg (A.trans A2)⟩
end
end Go.Rip
