import Derived.ChangeArms
import Derived.ChangeStays
import Derived.ChangeOld
import Derived.ChangeSame
import Derived.ChangeBears
import Derived.DataReads
import Derived.WideShapes
import Derived.ReadAgain
import Derived.Test.YtnfpmiiopiinbaaGreatDoorNx
import Derived.Test.YtnfpmiiopiinbaaGreatDoorYb
set_option linter.all false
namespace Go.Rip
open Go.Proofs Go.RowKit Go.ChangeShapes Go.WideShapes
def agV{α:Type}{l:List α}(h:l.length=6):∃a b c d e f,l=[a,b,c,d,e,f]:=by
 match l,h with
 | [a,b,c,d,e,f],_=>exact⟨a,b,c,d,e,f,rfl⟩
def akb{α:Type}{l:Array α}(h:l.size=1):∃a,l=#[a]:=by
 rcases l with ⟨l⟩
 match l,h with
 | [c],_=>exact⟨c,rfl⟩
variable {r:Reach}
def aiC{P:Program}{w:World}{base:Nat}{t:TypeId}{v:Value}{fs:Array Field}(ht:P.underlying t=some (.struct fs))(h:Value.okWide P w r base t v):∃cs,v=.agg cs/\cs.size=P.cellsOf t/\Row.okWide P w r base t cs:=by
 simp only[Value.okWide,ht]at h;exact h
def ag3{P:Program}{w:World}{base:Nat}{t u:TypeId}{c:Value}(ht:P.cellTypes P.depth t=some [u])(h:Row.okWide P w r base t #[c]):Cell.okWide P w r base u c:=by
 obtain⟨ts,hts,_,Bs⟩:=h;rw[ht]at hts;cases hts;obtain⟨u',hu,dG⟩:=Bs 0 c rfl;cases hu;exact dG
def ag4{P:Program}{w:World}{base:Nat}{u e:TypeId}{a:Addr}{len cap:Nat}(hu:P.underlying u=some (.slice e))(h:Cell.okWide P w r base u (.slice (some a) len cap)):a.spot=none:=by
 simp only[Cell.okWide,Cell.ok,hu]at h;exact h.2.2.2.1
def Lk(b o n:Nat):(⟨b,o,none⟩:Addr).add n=⟨b,o+n,none⟩:=by
 unfold Addr.add;split<;>simp_all
section
variable {H:Type}{enc:TypeId×Value->H}{W:World}{sp:Nat->Bool}{held:Bool}{n:Nat}
def afK{cs:List Value}{x:DataW H×List MemPlace}(h:DataW.trod enc Tryz.prog W 0 sp held n 43 cs=some x)(g:Gh):∃nd:Nd,aJ g (dv nd) cs/\∀u∈cs,u.oneCell':=by
 obtain⟨xs,m,rfl,rfl,hl,hlen,hf⟩:=DataW.trod_struct Tryz.underlying43 h;have hc:Tryz.prog.cellsOf 43=6:=by kernel_rfl
 have h3:Tryz.prog.cellsOf 3=1:=by kernel_rfl
 have h5:Tryz.prog.cellsOf 5=1:=by kernel_rfl
 have h9:Tryz.prog.cellsOf 9=1:=by kernel_rfl
 rw[hc]at hl;obtain⟨c0,c1,c2,c3,c4,c5,rfl⟩:=agV hl;obtain⟨y0,y1,y2,y3,y4,y5,rfl⟩:=agV (l:=xs) hlen;have f0:DataW.trod enc Tryz.prog W 0 sp held m 5 (([c0,c1,c2,c3,c4,c5].drop 0).take (Tryz.prog.cellsOf 5))=some y0:=hf 0 _ rfl;rw[h5]at f0;have f1:DataW.trod enc Tryz.prog W 0 sp held m 9 (([c0,c1,c2,c3,c4,c5].drop 1).take (Tryz.prog.cellsOf 9))=some y1:=hf 1 _ rfl;rw[h9]at f1;have f2:DataW.trod enc Tryz.prog W 0 sp held m 3 (([c0,c1,c2,c3,c4,c5].drop 2).take (Tryz.prog.cellsOf 3))=some y2:=hf 2 _ rfl;rw[h3]at f2;have f3:DataW.trod enc Tryz.prog W 0 sp held m 3 (([c0,c1,c2,c3,c4,c5].drop 3).take (Tryz.prog.cellsOf 3))=some y3:=hf 3 _ rfl;rw[h3]at f3;have f4:DataW.trod enc Tryz.prog W 0 sp held m 3 (([c0,c1,c2,c3,c4,c5].drop 4).take (Tryz.prog.cellsOf 3))=some y4:=hf 4 _ rfl;rw[h3]at f4;have f5:DataW.trod enc Tryz.prog W 0 sp held m 3 (([c0,c1,c2,c3,c4,c5].drop 5).take (Tryz.prog.cellsOf 3))=some y5:=hf 5 _ rfl;rw[h3]at f5;obtain⟨k0,e0,_,_⟩:=DataW.trod_int Tryz.underlying5 f0;obtain⟨k1,e1,_,_⟩:=DataW.trod_string Tryz.underlying9 f1;obtain⟨k2,e2,_,_⟩:=DataW.trod_int Tryz.underlying3 f2;obtain⟨k3,e3,_,_⟩:=DataW.trod_int Tryz.underlying3 f3;obtain⟨k4,e4,_,_⟩:=DataW.trod_int Tryz.underlying3 f4;obtain⟨k5,e5,_,_⟩:=DataW.trod_int Tryz.underlying3 f5;simp only[List.drop,List.take,List.cons.injEq,and_true]at e0 e1 e2 e3 e4 e5;subst e0 e1 e2 e3 e4 e5;refine⟨⟨k0,k1.data.toList,k2,k3,k4,k5⟩,?_,?_⟩
 . simp[dv,aJ,aB]
 . intro u hu;simp only[dy,List.not_mem_nil,or_false]at hu;rcases hu with rfl|rfl|rfl|rfl|rfl|rfl<;>rfl
def abN{g:Gh}{a b:List AV}{us vs:List Value}(h1:aJ g a us)(h2:aJ g b vs):aJ g (a++b) (us++vs):=by
 induction a generalizing us with
 | nil=>simp only[aJ]at h1;subst h1;exact h2
 | cons x a ih =>
   simp only[aJ]at h1;obtain⟨u,us',rfl,hu,hr⟩:=h1;simp only[ke,aJ];exact⟨u,us'++vs,rfl,hu,ih hr⟩
def Nq{g:Gh}:∀{a:List AV}{us:List Value},aJ g a us->us.length=a.length
 | [],us,h=>by simp only[aJ]at h;subst h;rfl
 | x::a,us,h=>by
   simp only[aJ]at h;obtain⟨u,us',rfl,hu,hr⟩:=h;simp[Nq hr]
def Nc{b off len:Nat}{elems:List (DataW H×List MemPlace)}(hlen:elems.length=len)
 (hel:∀i,i<len->(W.cells? 0 ((⟨b,off,none⟩:Addr).add (i*6)) 6).bind (DataW.trod enc Tryz.prog W 0 sp held n 43)=elems[i]?) (g:Gh) :
 ∀k,k<=len->∃(l:List Nd)(vs:List Value),l.length=k/\aJ g (bM l) vs/\∀j u,vs[j]?=some u->W.cell? ⟨b,off+j,none⟩=some u/\u.oneCell'
 | 0,_=>⟨[],[],rfl,by simp[bM,aJ],λj u h=>by simp at h⟩
 | k+1,hk=>by
   obtain⟨l,vs,h1,h2,h3⟩:=Nc hlen hel g k d6;have he:=hel k d6;rw[mP d6,Option.bind_eq_some_iff]at he;obtain⟨cs,wh,Ui⟩:=he;obtain⟨_,hl6,sP⟩:=World.cells?_some wh;obtain⟨nd,hr,ho⟩:=afK Ui g;have gk:vs.length=k*6:=by rw[Nq h2,gb,h1];omega
   refine⟨l++[nd],vs++cs,by simp[h1],?_,λj u hj=>?_⟩
   . have e:bM (l++[nd])=bM l++dv nd:=by simp[bM]
     rw[e];exact abN h2 hr
   . rw[List.getElem?_append]at hj;split at hj
     . exact h3 j u hj
     . rename_i gL;have hj6:j-vs.length<6:=by rw[<-hl6];exact (dw.1 hj).1
       have:=sP (j-vs.length) hj6;rw[Lk,Lk,hj]at this;rw[show off+j=off+k*6+(j-vs.length) by omega];exact⟨this,ho u (fT hj)⟩
def afd{c:Value}{x:DataW H×List MemPlace}(h:DataW.trod enc Tryz.prog W 0 sp held n 23 [c]=some x)(hs:∀a len cap,c=.slice (some a) len cap->a.spot=none):∃(x:AV)(l:List Nd),Sl x l/\aB (TK W) x c/\c.oneCell':=by
 rcases DataW.trod_slice Tryz.underlying23 h with ⟨h1,_⟩|⟨a,len,cap,elems,rest,m,_,h1,_,_,h2,h3,h4,h5,_⟩
 . simp only[List.cons.injEq,and_true]at h1;subst h1;exact⟨.af,[],⟨.inl ⟨rfl,rfl,rfl⟩,rfl⟩,by simp[aB],rfl⟩
 . simp only[List.cons.injEq,and_true]at h1;subst h1;have ha:=hs a len cap rfl;obtain⟨b,off,s⟩:=a;simp only at ha;subst ha;have hc:Tryz.prog.cellsOf 43=6:=by kernel_rfl
   rw[hc]at h5;obtain⟨l,vs,e1,e2,e3⟩:=Nc h4 h5 (TK W) len (da _);refine⟨.vec l.length .lC (bM l),l,⟨.inr ⟨_,rfl⟩,Gz l⟩,?_,rfl⟩;simp only[aB];refine⟨b,off,cap,vs,by rw[e1],d6,h3,trivial,λj u hj=>?_,e2⟩;obtain⟨q1,q2⟩:=e3 j u hj;show (match W.cell? ⟨b,off+j,none⟩ with|some u=>if u.oneCell'=true then some u else none|none=>none)=some u
   rw[q1];simp only;rw[if_pos q2]
set_option maxRecDepth 1000000 in
def U8{b0:Nat}{v:Value}{d:DataW H}{ps:List MemPlace}(hv:Value.okWide Tryz.prog W r b0 25 v)(h:DataW.Trod enc Tryz.prog W 0 sp held 25 v d ps):∃(x:AV)(l:List Nd),Sl x l/\aB (TK W) (.agg [x]) v:=by
  obtain⟨n,hn⟩:=h;have aju:Tryz.prog.cellsOf 25=1:=by kernel_rfl
  have ajt:Tryz.prog.cellsOf 23=1:=by kernel_rfl
  obtain⟨cs,rfl,gj,Bs⟩:=aiC (P:=Tryz.prog) (t:=25) Tryz.underlying25 hv;rw[aju]at gj;obtain⟨y0,m,_,hl,h0⟩:=trod_struct1 Tryz.underlying25 hn;rw[ajt]at h0;obtain⟨c,rfl⟩:=akb gj;have h0:DataW.trod enc Tryz.prog W 0 sp held m 23 [c]=some y0:=h0;obtain⟨x,l,hx,hr,ho⟩:=afd h0 λa len cap e=>by
    subst e;exact ag4 Tryz.underlying23 (ag3 (by kernel_rfl) Bs)
  refine⟨x,l,hx,?_⟩;simp only[aB];exact⟨[c],rfl,λu hu=>by rw[lT]at hu;subst hu;exact ho,by simp only[aJ];exact⟨c,[],rfl,hr,rfl⟩⟩
end
def aix:Kids Tryz.prog (·<Tryz.prog.types.size):=kids_rows (by kernel_rfl) (by kernel_rfl)
def ah4:∀{t e:TypeId},t<Tryz.prog.types.size->Tryz.prog.underlying t=some (.slice e)->0<Tryz.prog.cellsOf e:=λ{t e}h k=>slices_full_of Tryz.prog (by kernel_rfl) t e h k
set_option maxRecDepth 1000000 in
def CA{H:Type}{enc:TypeId×Value->H}{W W':World}(bel:Go.RowKit.Below W.heap.size W W'):∀{ts:List TypeId}{vs:List Value}{ds:List (DataW H)}{ps:List MemPlace},ts.all (λt=>decide (t<Tryz.prog.types.size)) ->
    DataW.TrodAll enc Tryz.prog W 0 (λ_=>true) true ts vs ds ps->(∀p∈ps,p.block<W.heap.size)->DataW.TrodAll enc Tryz.prog W' 0 (λb=>decide (b<W.heap.size)) true ts vs ds ps
  | [],[],[],_,_,h,_=>h
  | t::ts,v::vs,d::ds,_,hT,⟨p,q,⟨n,h1⟩,h2,e⟩,hs=>by
    rw[List.all_cons,cS,dU]at hT;refine⟨p,q,⟨n,DataW.trod_stays aix ah4 (λh=>by cases h) hT.1 h1 (λx hx=>bel.same (hs x (by rw[e];exact List.mem_append_left _ hx))) λx hx=>?_⟩,CA bel hT.2 h2 λx hx=>hs x (by rw[e];exact List.mem_append_right _ hx),e⟩;simpa using hs x (by rw[e];exact List.mem_append_left _ hx)
end Go.Rip
