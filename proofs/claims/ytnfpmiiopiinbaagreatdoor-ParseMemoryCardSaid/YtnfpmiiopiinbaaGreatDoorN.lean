import Derived.Test.YtnfpmiiopiinbaaGreatDoorM
import Derived.Test.YtnfpmiiopiinbaaGreatDoorH
set_option linter.all false
namespace Go.Rip
open Go.RowKit
structure Rx where
 L:List Tk
 E:Nat
 tv:AV
 tr:dz tv L.length (gu L)
 ok:∀t∈L,o4 t
 small:L.length<=900
def rd(X:Rx)(i:Nat):List AV:=[X.tv,bv i,bv X.E,DD,uR]
def Py(X:Rx)(i:Nat):AV:=.iface 136 (.agg [bv (cT X.L X.E i)])
def dz.len{v:AV}{n:Nat}{cs:List AV}(h:dz v n cs):dK (some false) v=.val (bv n):=by
 rcases h with ⟨rfl,rfl,rfl⟩|⟨c,rfl⟩<;>rfl
def dz.at{v:AV}{n:Nat}{cs:List AV}(h:dz v n cs){sz e j:Nat}(hj:j<n):∃c,v=.vec n c cs/\bJ (some (e,sz)) none v (bv (j:Int))=.cond (0<=(j:Int)/\(j:Int)<n) (.val (.dJ (cs.drop (j*sz)))):=by
 rcases h with ⟨rfl,rfl,rfl⟩|⟨c,rfl⟩
 . omega
 . exact⟨c,rfl,d8⟩
def vF:∀i,closed (K.C2 i):=λi=>by
 show closed (if i=0 then .dJ Aa else if i=7 then .dJ AQ else .any)=true
 split
 . kernel_rfl
 . split
   . kernel_rfl
   . rfl
def Pure.of{f:Nat}{args:List AV}{x:AV}(hargs:cW args)(hx:closed x)(hr:∀U,resolve 5 U x=x)
 (h:∀R:bi,(∀aa,R (.ret x) aa)->ag K f args (cj ⟨.e,0⟩) R):Pure K f args x :=
 Pure.Ew vF hargs hx 5 (h _ λaa=>⟨x,rfl,hr aa⟩)
def idx(l:List aT)(s:aT):Int:=match l.findIdx? (·=s) with|some i=>i|none=>-1
def RF(c:nj)(l:List aT)(s:aT)(hn:l.length<=100000):Pure K 230 [.vec l.length c (l.map .str),.str s] (bv (idx l s)):=by
 intro U R hR;refine Y3 ?_;simp only[Y2,di,ak,gX,aQ,ah,ar,ca,cJ,u1,ad];refine⟨λm v0 v1 v7 v8 aa=>∃i:Nat,m=l.length-i/\i<=l.length/\v0=.vec l.length c (l.map .str)/\v1=.str s/\v7=bv l.length/\v8=bv i/\aa=U/\∀j,j<i->l[j]?≠some s,⟨l.length,0,by simp[Fn.app]⟩,?_⟩;intro m v0 v1 v7 v8 aa hI;obtain⟨i,rfl,hi,rfl,rfl,rfl,rfl,rfl,iV⟩:=hI;simp only[aY,ad,bp];refine⟨λaA=>?_,λgL=>?_⟩
 . have aA:i<l.length:=by omega
   have hd:(l.map AV.str).drop (i*1)=.str l[i]::(l.map AV.str).drop (i+1):=by
    rw[Nat.mul_one,gI (by simpa using aA)];simp
   simp only[Cx,wp_cond,ad,ez,hd,y7,eP,hU,bp];refine⟨d6,λhe=>?_,λcD=>?_⟩
   . refine aq.eq hR ?_;have:l.findIdx? (·=s)=some i:=by
      rw[IG];refine⟨aA,by simp[he],λj hj=>?_⟩;have:=iV j hj;rw[mP d6]at this;simpa using this
     simp[idx,this]
   . simp only[oI,il,wp_cond,ad];refine⟨aX d6 d6,?_⟩;refine⟨l.length-(i+1),d6,i+1,rfl,d6,rfl,rfl,rfl,d8,rfl,λj hj=>?_⟩
     . rcases ik j i with h|h
       . exact iV j h
       . have:j=i:=by omega
         subst this;rw[mP aA];simpa using λh=>cD h.symm
 . refine aq.eq hR ?_;have:l.findIdx? (·=s)=none:=by
    rw[List.findIdx?_eq_none_iff];intro x hx;obtain⟨j,hj,rfl⟩:=List.getElem_of_mem hx;have:=iV j d6;rw[mP hj]at this;simpa using this
   simp[idx,this]
section
variable {X:Rx}{r i:Nat}{U:St}{R:bi}
def Ni(hr:U.box r=some (rd X i))(h:R (.ret (bv (cT X.L X.E i))) U):ag K 164 [.box r 0] U R:=by
 refine XB ?_;simp only[XA,bg,ak,ah,cG,gO,mX,mz,zw,jl,bL,ao,aP,ld hr,rd,List.drop,eP,X.tr.len,aY,bp,ad,cK];refine⟨λaA=>?_,λgL=>?_⟩
 . have aA:i<X.L.length:=by omega
   obtain⟨c,hv,nx⟩:=X.tr.at (sz:=3) (e:=51) aA;obtain⟨t,ht⟩:∃t,X.L[i]?=some t:=⟨X.L[i],by simp[aA]⟩;obtain⟨rest,hd⟩:=vo ht;simp only[nx,jB,ao,hd,dX,y7,jD,ke,mQ,List.drop,eP];refine⟨d6,aq.mk ?_⟩;have:cT X.L X.E i=t.at_:=by simp[cT,ht]
   rw[<-this];exact h
 . refine aq.mk ?_;have:cT X.L X.E i=X.E:=by simp[cT,pn (show X.L.length<=i by omega)]
   rw[<-this];exact h
def uJ:Option Tk->List AV
 | some t=>jD t
 | none=>[co 0,.str [],bv 0]
def tn(hr:U.box r=some (rd X i))(hi:i<=X.L.length)(k:Nat)(hk:k<=10)(h:∀aa,dt U aa->R (.ret (.agg (uJ X.L[i+k]?))) aa):ag K 167 [.box r 0,bv k] U R:=by
 refine XH ?_;have hs:=X.small;simp only[XG,ak,fw,ah,aC,dr,dA,gO,zqa,mX,mz,zw,jl,my];intro b hb;have PM:=hb.cA hr;have hr1:(U.new b (.box [co 0,AV.str [],bv 0])).box r=some (rd X i):=by rw[pF PM];exact hr
 have gz:(U.new b (.box [co 0,AV.str [],bv 0])).box b=some [co 0,AV.str [],bv 0]:=aH;simp only[NV.at,bL,ao,aP,ld hr1,rd,List.drop,eP,X.tr.len,oI,il,jB,aY,bp,ad,cK];refine⟨aX d6 d6,λaA=>?_,λgL=>?_⟩
 . have aA:i+k<X.L.length:=by omega
   obtain⟨c,hv,nx⟩:=X.tr.at (sz:=3) (e:=51) aA;obtain⟨t,ht⟩:∃t,X.L[i+k]?=some t:=⟨X.L[i+k],by simp[aA]⟩;obtain⟨rest,hd⟩:=vo ht;rw[<-Int.natCast_add];simp only[nx,jB,ao,hd,R2,D1 gz,wp_cond,oH];refine⟨aX d6 d6,d6,by simp[jD],by simp[jD],?_⟩;rw[zK (UH (aZ) 3 0)];refine⟨by simp[ax,jD],?_⟩;refine aq.eq (h _ (((dt.refl U).new hb).set hb.1)) ?_;simp[ax,jD,ht,uJ]
 . simp only[cx,ja,ad,D1 gz,wp_cond,oH];refine⟨d8,?_⟩;rw[zK (UH (aZ) 3 0)];refine⟨by simp[ax],?_⟩;refine aq.eq (h _ (((dt.refl U).new hb).set hb.1)) ?_;simp[ax,pn (show X.L.length<=i+k by omega),uJ]
def zN(o:Option Tk)(l:List aT):Bool:=match o with
 | some t=>(t.k==3||t.k==4)&&decide (t.s∈l)
 | none=>false
def RE(l:List aT)(s:aT):decide (0<=idx l s)=decide (s∈l):=by
 unfold idx;split
 . rename_i j hj;obtain⟨h1,h2,_⟩:=IG.1 hj;have:s∈l:=by have:=of_decide_eq_true h2;exact this▸vd h1
   simp[this]
 . rename_i hj;rw[List.findIdx?_eq_none_iff]at hj;have:s∉l:=λhm=>by simpa using hj s hm
   simp[this]
def KI(c:nj)(l:List aT)(s:aT)(hn:l.length<=100000):Pure K 178 [.vec l.length c (l.map .str),.str s] (.bool (decide (s∈l))):=by
 intro U R hR;refine X3 ?_;dsimp only[X2,ae,ah,ar];refine (RF c l s hn).go ?_;simp only[eX,ad];refine aq.eq hR ?_;rw[RE]
def FM{c:nj}(o:Option Tk)(l:List aT)(hn:l.length<=100000)(h:∀aa,dt U aa->R (.ret (.bool (zN o l))) aa):ag K 121 [.agg (uJ o),.vec l.length c (l.map .str)] U R:=by
 refine Wp ?_;have hl:∃k s a,uJ o=[co k,.str s,bv a]/\zN o l=((decide (k=3)||decide (k=4))&&decide (s∈l)):=by
  cases o with
  | none=>exact⟨0,[],0,rfl,rfl⟩
  | some t=>exact⟨t.k,t.s,t.at_,rfl,by
     have e:∀m:Nat,(t.k==m)=decide ((t.k:Int)=(m:Int)):=λm=>by
      rw[oN];simp;omega
     simp only[zN,e 3,e 4];rfl⟩
 obtain⟨k,s,a,e1,e2⟩:=hl;rw[e1];simp only[Wo,fR,lM,cU,lN,jr,bg,ah,ar,dI,bX,Ja _ (abk _),wp_cond,true_and,Tl,my];intro b_ hb;have gz:(U.new b_ (.box [co k,.str s,bv a])).box b_=some [co k,.str s,bv a]:=aH;have hx:=h _ ((dt.refl U).new (x:=.box [co k,.str s,bv a]) hb);rw[e2]at hx;simp only[NV.at,aP,ad,ld gz,List.drop,eP,aN,aF,aw,ma,cK];have T4:=KI c l s hn;have step:∀b:Bool,((decide (k=3)||decide (k=4))&&decide (s∈l))=b->aq R (.bool b) (U.new b_ (.box [co k,.str s,bv a])):=λb e=>by subst e;exact aq.mk hx
 by_cases h3:k=3
 . subst h3;simp[ld gz];exact⟨_,T4,step _ d8⟩
 . by_cases h4:k=4
   . subst h4;simp[ld gz];exact⟨_,T4,step _ d8⟩
   . simp[ld gz,h3,h4];exact step _ (by simp[h3,h4])
def Oq(s w:aT):decide (s∈[w])=(s==w):=by
 by_cases h:s=w
 . simp[h]
 . simp[h]
def Ey(L:List Tk)(i:Nat)(w:aT):zN L[i]? [w]=bP L i w:=by
 unfold zN bP;split
 . rename_i t ht;rw[ht,Oq]
 . rename_i ht;rw[ht]
def RM{c:nj}(hr:U.box r=some (rd X i))(hi:i<=X.L.length)(l:List aT)(hn:l.length<=100000)(h:∀aa,dt U aa->R (.ret (.bool (zN X.L[i]? l))) aa):ag K 105 [.box r 0,.vec l.length c (l.map .str)] U R:=by
 refine VQ ?_;dsimp only[VP,ae,ah];refine tn hr hi 0 d6 λaK e1=>?_;refine FM (X.L[i]?) l hn λaV e2=>?_;exact aq.mk (h _ (e1.trans e2))
def MW(hr:U.box r=some (rd X i))(hi:i<=X.L.length)(w:aT)
 (h1:bP X.L i w->∀aa,gK r (rd X (i+1)) U aa->R (.ret ce) aa) (h2:bP X.L i w=false->∀aa,dt U aa->R (.ret ci) aa):ag K 100 [.box r 0,.str w] U R:=by
 refine VG ?_;have hs:=X.small;simp only[VF,ae,bg,ak,ah,ar,cw,cG,fW,cn,aC,ai,ja,Jd,abm,bZ,wp_cond,ad,ax,List.take,List.drop,mQ,ke,iM];refine⟨d6,d8,d8,?_⟩;refine RM (l:=[w]) hr hi d8 λaK e1=>?_;have hr1:=e1.bq hr;simp only[bh,db,ad,Ey];cases hw:bP X.L i w with
 | false=>simp only[dS,aL];exact aq.mk (h2 hw _ e1)
 | true =>
   simp only[cL,aG,bL,ad,aP,ld hr1,rd,List.drop,eP,cK,oI,il,wp_cond,D1 hr1,oH];refine⟨aX d6 d6,d8,aq.mk (h1 hw _ ⟨?_,(e1.vZ (r:=r)).set (.inr rfl)⟩)⟩;rw[aZ];simp[ax,rd]
def Pw(hr:U.box r=some (rd X i))(h:R (.panic (Py X i)) U):ag K 166 [.box r 0] U R:=by
 refine XF ?_;dsimp only[XE,ae,ah,aC];refine Ni hr ?_;simp only[bh,cx,ja,Jc,abl,wp_cond,ad,ax,BL,if_true,yn,acZ];refine⟨d8,?_⟩;exact h
def Iu(hr:U.box r=some (rd X i))(hi:i<=X.L.length)(w:aT)
 (h1:bR X.L w i=.ok () (i+1)->i+1<=X.L.length->∀aa,gK r (rd X (i+1)) U aa->R (.ret (.az [])) aa) (h2:bR X.L w i=.bad i->∀aa,gK r (rd X i) U aa->R (.panic (Py X i)) aa):ag K 102 [.box r 0,.str w] U R:=by
 refine VK ?_;dsimp only[VJ,ae,ak,ah,fW];refine MW hr hi w (λhw aK a1=>?_) (λhw aK e1=>?_)
 . simp only[bh,db,ad,cL,aG];exact aq.mk (h1 (by simp[bR,hw]) (de hw) _ a1)
 . simp only[bh,db,ad,dS,aL];exact Pw (e1.bq hr) (h2 (by simp[bR,hw]) _ (.mV hr e1))
def zm(o:Option Tk):∃k:Int,∃s a,uJ o=[co k,.str s,bv a]/\(∀m:Nat,0<m->(k=(m:Int)↔∃t,o=some t/\t.k=m/\t.s=s)):=by
 cases o with
 | none=>exact⟨0,[],0,rfl,λm hm=>⟨λh=>by omega,λ⟨t,h,_⟩=>by cases h⟩⟩
 | some t=>exact⟨t.k,t.s,t.at_,rfl,λm hm=>⟨λh=>⟨t,rfl,d6,rfl⟩,λ⟨u,h,h2,h3⟩=>by cases h;omega⟩⟩
def U5(hr:U.box r=some (rd X i))(hi:i<=X.L.length)(k:Nat)(hk:0<k)
 (h1:∀t,X.L[i]?=some t->t.k=k->i+1<=X.L.length->∀aa,gK r (rd X (i+1)) U aa->R (.ret (.str t.s)) aa) (h2:(∀t,X.L[i]?=some t->t.k≠k)->∀aa,gK r (rd X i) U aa->R (.panic (Py X i)) aa):ag K 165 [.box r 0,co k] U R:=by
 refine XD ?_;dsimp only[XC,ae,bg,ak,pZ,aQ,ah,ar,ca,cw,cG,cn,dr,dA];have hs:=X.small;refine tn hr hi 0 d6 λaK e1=>?_;have hr1:=e1.bq hr;obtain⟨m,s,a,e,hm⟩:=zm X.L[i+0]?;rw[e];simp only[bh,my];intro b hb;have PM:=hb.cA hr1;have e2:=e1.new (x:=.box [co 0,AV.str [],bv 0]) hb;have gz:(aK.new b (.box [co 0,AV.str [],bv 0])).box b=some [co 0,AV.str [],bv 0]:=aH;simp only[NV.at,D1 gz,wp_cond,oH];refine⟨d8,?_⟩;have e3:=e2.set (x:=.box (ax [co 0,AV.str [],bv 0] 0 (al (.agg [co m,.str s,bv a])))) (e1.fresh hb.1);generalize qK:(aK.new b (.box [co 0,AV.str [],bv 0])).set b (.box (ax [co 0,AV.str [],bv 0] 0 (al (.agg [co m,.str s,bv a]))))=bG at e3 ⊢;have kF:bG.box b=some [co m,.str s,bv a]:=by rw[<-qK,aZ];rfl
 have Cv:=e3.bq hr;intro j hj;simp only[aP,ad,ld kF,List.drop,eP,cK,ck,cX,Bool.not_eq_true',decide_eq_false_iff_not,Bool.not_eq_false',dU];refine⟨λcD=>?_,λheq=>?_⟩
 . refine Pw Cv ?_;exact h2 (λt ht he=>cD ((hm k hk).2 ⟨t,ht,he,by rw[Nat.add_zero,ht]at e;cases e;rfl⟩)) _ (.mV hr e3)
 . obtain⟨t,ht,ox,yd⟩:=(hm k hk).1 heq;have aA:=(dw.1 ht).1;refine hj _ _ _ ?_;simp only[bL,ad,aP,ld Cv,rd,List.drop,eP,cK,oI,il,wp_cond,D1 Cv,oH];refine⟨aX d6 d6,d8,?_⟩;rw[oH];generalize MC:bG.set r _=cI;have kG:cI.box b=some [co m,.str s,bv a]:=by rw[<-MC,bf (Ne.symm PM)];exact kF
   have Mu:cI.box r=some (rd X (i+1)):=by rw[<-MC,aZ];simp[ax,rd]
   have e4:jT r U cI:=by rw[<-MC];exact (e3.vZ (r:=r)).set (.inr rfl)
   simp only[ld kG,List.drop,eP,ad];refine aq.mk ?_;rw[<-yd];exact h1 t ht ox aA _ ⟨Mu,e4⟩
def aeW(hr:U.box r=some (rd X i))(hi:i<=X.L.length)
 (h1:∀x,fO X.L i=.ok x (i+1)->i+1<=X.L.length->∀aa,gK r (rd X (i+1)) U aa->R (.ret (.str x)) aa) (h2:fO X.L i=.bad i->∀aa,gK r (rd X i) U aa->R (.panic (Py X i)) aa):ag K 101 [.box r 0] U R:=by
 refine VI ?_;dsimp only[VH,ae,ah];refine U5 hr hi 1 d6 (λt ht hk hl aK a1=>?_) (λhn aK a1=>?_)
 . exact aq.mk (h1 t.s (by simp[fO,ht,hk]) hl _ a1)
 . refine h2 ?_ _ a1;unfold fO;split
   . rename_i t ht;rw[if_neg (hn t ht)]
   . rfl
end
end Go.Rip
namespace Go.Rip
open Go.Proofs Go.RowKit
def Pure.U3{f:FuncId}{args:List AV}{vs:List Value}{x:AV}{v:Value}(hargs:∀g us,aJ g args us->us=vs)(hx:∀g,aB g x v)
 (h:∀w,Calls K.P f vs.toArray w λe w'=>e=.returned v/\w.grownBy w' none):Pure K f args x:=by
 intro U R hR g w us hs hG ha;have:=hargs g us ha;subst this;refine callsIn_wide.2 ((h w).mono λe w' ⟨h1,h2⟩=>?_);subst h1;exact⟨g,U,x,Gh.Le.refl g,hs.grow h2,hx g,hR⟩
def Om(w:World)(e:TypeId)(s:ByteArray):w.grownBy (Lib.bytesWorld w e s) none:=by
 have cD:∀q,q<w.heap.size->w.heap.size≠q:=λq h=>by omega
 unfold Lib.bytesWorld World.freeze;split
 . exact⟨rfl,rfl,rfl,by simp[World.alloc,World.drew,-World.alloc_eq,-World.drew_eq],λq hq _=>by simp[World.alloc,World.drew,-World.alloc_eq,-World.drew_eq,Array.getElem?_push,Nat.ne_of_lt hq]⟩
 . refine⟨rfl,rfl,rfl,by simp[World.alloc,World.drew,-World.alloc_eq,-World.drew_eq],λq hq _=>?_⟩;simp[World.alloc,World.drew,-World.alloc_eq,-World.drew_eq,Array.getElem?_modify,Array.getElem?_push,cD q hq,Nat.ne_of_lt hq]
def S8(s:aT)(h0:s≠[])(h:mO s=0):Pure K 218 [.str s] (.az [bv (xN s),.eu]):=by
 obtain⟨h1,h2,_⟩:=zd h0 h;refine Pure.U3 (vs:=[.string ⟨s.toArray⟩]) (v:=.tuple #[.int .i64 (xN s),.nilIface]) (λg us hr=>abO hr) (λg=>by simp[aB,aJ]) λw=>?_;refine (Tryz.strconv_Atoi ⟨s.toArray⟩ (xN s) (by show s.toArray.size<=18;simp;omega) (aak h0 (Eu h).1) w).mono λe w' ⟨he,t,hw⟩=>⟨he,?_⟩;subst hw;exact Om _ _ _
section
variable {X:Rx}{r i:Nat}{U:St}{R:bi}
def U1(hr:U.box r=some (rd X i))(hi:i<=X.L.length)
 (h1:∀x,js X.L i=.ok x (i+1)->i+1<=X.L.length->∀aa,gK r (rd X (i+1)) U aa->R (.ret (bv x)) aa) (h2:js X.L i=.bad i->∀aa,gK r (rd X i) U aa->R (.panic (Py X i)) aa):ag K 168 [.box r 0] U R:=by
 refine XJ ?_;dsimp only[XI,ae,ak,vw,aQ,ah,aC,dm];refine U5 hr hi 2 d6 (λt ht hk hl aK a1=>?_) (λhn aK a1=>?_)
 . have dG:=X.ok t (fT ht);refine (S8 t.s dG.1 (Iz dG hk)).go ?_;simp only[bN,List.drop,eP,ad,bU,if_true];intro j hj;simp only[and_self,if_true,ad,aG];exact hj _ _ (aq.mk (h1 _ (by simp[js,ht,hk]) hl _ a1))
 . refine h2 ?_ _ a1;unfold js;split
   . rename_i t ht;rw[if_neg (hn t ht)]
   . rfl
def oc(kind:Int)(text:aT)(n m at_:Int)(kv:AV):List AV:=[co kind,.str text,bv n,bv m,bv at_,bv 0,kv]
def Grow(U:St)(v:AV)(e:TypeId)(sz n:Nat)(l:List AV):Prop:=(n=0/\l=[]/\v=.af)\/∃τ,v=.vec n (.own τ) l/\U.tok τ=some ⟨n,e,sz⟩/\l.length=n*sz
def afS(aj:St)(v:AV):Prop:=∀n τ l,v=.vec n (.own τ) l->aj.live τ=none
def Ce{e sz n m:Nat}{v y:AV}{l l2:List AV}{K':am}{Kp:am}(hg:Grow U v e sz n l)(hy:qD U y=some (m,l2))(hl:l2.length=m*sz)(hm:0<m)(hb:n+m<=4294967296)(h0:n=0->v=.af)
 (h:∀aa v',Grow aa v' e sz (n+m) (l++l2)->(∀b x,(∀n l,v≠.vec n (.own b) l)->U.live b=some x->aa.live b=some x)->(∀n τ l,v'=.vec n (.own τ) l->U.live τ=none\/∃n l,v=.vec n (.own τ) l)->K' v' aa):(dH (some (e,sz)) false v y U).wp K U K' Kp:=by
 rcases hg with ⟨rfl,rfl,rfl⟩|⟨τ,rfl,ht,yU⟩
 . have Ud:m≠0:=by omega
   simp only[dH,hy,if_neg Ud,bW,if_false,wp_cond];refine⟨hl,d6,λb fi=>?_⟩;refine h _ _ (.inr ⟨b,by simp[NV.at],by rw[cK];exact Cc,by simp[hl]⟩) (λc x hc hx=>(bK fi) c x hx) λn τ l hv=>?_;simp only[NV.at,AV.vec.injEq,nj.own.injEq]at hv;exact .inl (hv.2.1▸fi.1)
 . have Ay:n≠0:=λe=>by have:=h0 e;cases this
   simp only[dH,hy,wp_cond];refine⟨hl,⟨ht,yU,hb⟩,λb fi=>?_⟩;refine h _ _ (.inr ⟨b,rfl,Cc,by simp[hl,yU,Nat.add_mul]⟩) (λc x hc hx=>?_) λn' wZ l' hv=>?_
   . refine (bK fi) c x ?_;have cD:c≠τ:=λe=>hc n l (by rw[e]);show (U.del τ).live c=some x;rw[jv,if_neg cD];exact hx
   . simp only[NV.at,AV.vec.injEq,nj.own.injEq]at hv;have hf:=fi.1;rw[<-hv.2.1]
     by_cases e:b=τ
     . subst e;exact .inr ⟨_,_,rfl⟩
     . left;have:(U.del τ).live b=none:=hf;rw[jv,if_neg e]at this;exact this
structure Mk (aj U:St) (r k:Nat) (kind:Int) (text:aT) (n m at_:Int) (ks:List AV):Prop where
 box:∃kv,U.box k=some (oc kind text n m at_ kv)/\Grow U kv 87 1 ks.length ks/\afS aj kv/\(ks=[]->kv=.af)
 new:aj.live k=none
 ne:k≠r
inductive fH:Bool->List AV->List Nd->Prop
 | mk {kind:Int} {text:aT} {n m at_:Int} {kv:AV} {ks:List AV} {l:List Nd}:fH true ks l->(ks=[]/\kv=.af\/∃c,kv=.vec ks.length c ks)->fH false [.dJ (oc kind text n m at_ kv)] (node kind text n m at_ l)
 | nil:fH true [] []
 | cons {a:AV} {ks:List AV} {l l':List Nd}:fH false [a] l->fH true ks l'->fH true (a::ks) (l++l')
def fH.snoc{ks:List AV}{l:List Nd}{a:AV}{l':List Nd}(h:fH true ks l)(k:fH false [a] l'):fH true (ks++[a]) (l++l'):=by
 generalize hb:true=b at h
 induction h with
 | mk _ _ _=>cases hb
 | nil=>simpa using fH.cons k fH.nil
 | cons h1 h2 _ ih=>rw[lG];exact .cons h1 (ih rfl)
def fH.one{a:AV}{l:List Nd}(k:fH false [a] l):fH true [a] l:=by simpa using fH.cons k fH.nil
section
variable {X:Rx}{r i j k:Nat}{aj U aa:St}{R:bi}{kind:Int}{text:aT}{n m at_:Int}{ks:List AV}
def Mk.jW{l:List AV}(M:Mk aj U r k kind text n m at_ ks)(a:gK r l U aa){l':List AV}(hr:U.box r=some l'):Mk aj aa r k kind text n m at_ ks:=by
 obtain⟨kv,h1,h2,h3,h4⟩:=M.box;refine⟨⟨kv,a.ex.bq M.ne h1,?_,h3,h4⟩,M.new,M.ne⟩;rcases h2 with h2|⟨τ,e,ht,hl⟩
 . exact .inl h2
 . exact .inr ⟨τ,e,a.ex.tok (fY hr ht).symm ht,hl⟩
def Mk.D1(M:Mk aj U r k kind text n m at_ ks){o w:Nat}{v:AV}{adk:Int}{ad6:aT}{n' m' af1:Int}{K':am}{Kp:am}{t:Bool}
 (hs:∀kv,v.dC/\(al v).length=w/\o+w<=(oc kind text n m at_ kv).length/\ax (oc kind text n m at_ kv) o (al v)=oc adk ad6 n' m' af1 kv)
 {L:List AV} (A:gK r L aj U)
 (h:∀aa,Mk aj aa r k adk ad6 n' m' af1 ks->gK r L aj aa->K' (.az []) aa):(dD (some (t,w)) (.box k o) v U).wp K U K' Kp:=by
 obtain⟨kv,h1,h2,h3,h4⟩:=M.box;obtain⟨s1,s2,s3,s4⟩:=hs kv;rw[cV h1,s4];refine⟨⟨s1,s2,s3⟩,h _ ⟨⟨kv,aZ,?_,h3,h4⟩,M.new,M.ne⟩ ⟨by rw[bf M.ne.symm];exact A.box,A.ex.set (.inl M.new)⟩⟩;rcases h2 with h2|⟨τ,e,ht,hl⟩
 . exact .inl h2
 . exact .inr ⟨τ,e,by rw[jk (fY h1 ht).symm];exact ht,hl⟩
def afc(hr:U.box r=some (rd X i))(kind:Int)(h:∀k aa,Mk U aa r k kind [] 0 0 (cT X.L X.E i) []->gK r (rd X i) U aa->R (.ret (.box k 0)) aa):ag K 99 [.box r 0,co kind] U R:=by
 refine acA ?_;dsimp only[ad2,ae,ah,dI,aC];refine Ni hr ?_;refine jC [co kind,.str [],bv 0,bv 0,bv (cT X.L X.E i),bv 0] rfl ?_;refine jC (oc kind [] 0 0 (cT X.L X.E i) .af) rfl ?_;rw[fg rfl];intro b hb;exact aq.mk (h b _ ⟨⟨_,aH,.inl ⟨rfl,rfl,rfl⟩,(λ_ _ _ e=>by cases e),λ_=>rfl⟩,hb.1,(hb.cA hr).symm⟩ (.mV hr ((dt.refl U).new hb)))
def QU{L:List AV}{mm:Nat}{c:nj}{l2:List AV}(M:Mk aj U r k kind text n m at_ ks)(A:gK r L aj U)(hm:0<mm)(hl:l2.length=mm)(hb:ks.length+mm<=4294967296)
 (h:∀aa,Mk aj aa r k kind text n m at_ (ks++l2)->gK r L aj aa->aq R (.box k 0) aa):ag K 103 [.box k 0,.vec mm c l2] U R:=by
 refine VM ?_;obtain⟨kv,h1,h2,h3,h4⟩:=M.box;simp only[VL,bg,ah,cw,cG,ej,cn,bL,ad,aP,gJ h1,oc,List.drop,bI,cK];refine Ce h2 rfl (by simp[hl]) hm hb (λe=>h4 (ti.1 e)) λaK v' g1 e1 n1=>?_;have k1:aK.box k=some (oc kind text n m at_ kv):=by
  cases e:U.live k with
  | none=>exact absurd e (cN h1)
  | some x =>
    have:=e1 k x (λn' l' hv=>by
     rcases h2 with ⟨_,_,h2⟩|⟨τ,h2,ht,_⟩
     . rw[h2]at hv;cases hv
     . rw[h2]at hv;cases hv;exact fY h1 ht rfl) e
    rw[eE (this.trans e.symm)];exact h1
 have A1:gK r L aj aK:=by
  have key:∀b x,aj.live b=some x->U.live b=some x->aK.live b=some x:=λb x hx hy=>e1 b x (λn' l' hv=>by rw[h3 _ _ _ hv]at hx;cases hx) hy;refine⟨?_,λb x Mb hx=>key b x hx (A.ex b x Mb hx)⟩;cases e:U.live r with
  | none=>exact absurd e (cN A.box)
  | some x =>
    have:=e1 r x (λn' l' hv=>by
     rcases h2 with ⟨_,_,h2⟩|⟨τ,h2,ht,_⟩
     . rw[h2]at hv;cases hv
     . rw[h2]at hv;cases hv;exact fY A.box ht rfl) e
    rw[eE (this.trans e.symm)];exact A.box
 rw[cV k1];have cD:v'≠.af:=by
  rcases g1 with ⟨h0,_,_⟩|⟨τ,e,_⟩
  . omega
  . rw[e];simp
 have dC:v'.dC/\al v'=[v']:=by
  rcases g1 with ⟨h0,_,_⟩|⟨τ,e,_⟩
  . omega
  . rw[e];exact⟨rfl,rfl⟩
 refine⟨⟨dC.1,by rw[dC.2];rfl,by simp[oc]⟩,(h _ ⟨⟨v',?_,?_,λn' wZ l' hv=>?_,λe=>?_⟩,M.new,M.ne⟩ ⟨by rw[bf M.ne.symm];exact A1.box,A1.ex.set (.inl M.new)⟩)⟩
 . rw[aZ,dC.2];rfl
 . rw[dx,hl];rcases g1 with h0|⟨τ,e,ht,hl⟩
   . exact .inl h0
   . exact .inr ⟨τ,e,by rw[jk (fY k1 ht).symm];exact ht,hl⟩
 . rcases n1 n' wZ l' hv with hx|⟨n2,l2',hx⟩
   . cases e:aj.live wZ with
     | none=>rfl
     | some x =>
       by_cases hrt:wZ=r
       . subst hrt;exact absurd hx (cN A.box)
       . have:=A.ex wZ x hrt e;rw[hx]at this;cases this
   . exact h3 _ _ _ hx
 . have:l2=[]:=(List.append_eq_nil_iff.1 e).2;subst this;simp at hl;omega
def afU{L:List AV}{mm:Nat}{c:nj}{l2:List AV}(M:Mk aj U r k kind text n m at_ ks)(A:gK r L aj U)(hm:0<mm)(hl:l2.length=mm)(hb:ks.length+mm<=4294967296)
 (h:∀aa,Mk aj aa r k kind text n m at_ (ks++l2)->gK r L aj aa->R (.ret (.box k 0)) aa):ag K 103 [.box k 0,.vec mm c l2] U R:=QU M A hm hl hb λaa M A=>aq.mk (h aa M A)
def Mk.done{l:List AV}{ns:List Nd}(M:Mk aj U r k kind text n m at_ ks)(hk:fH true ks ns)(A:gK r l aj U)(h:∀a aa,fH false [a] (node kind text n m at_ ns)->gK r l aj aa->R (.ret a) aa):aq R (.box k 0) U:=by
 obtain⟨kv,h1,h2,h3,h4⟩:=M.box;refine⟨_,_,qz.freeze h1,h _ _ (.mk hk ?_) ⟨by rw[jF M.ne.symm];exact A.box,A.ex.del (.inl M.new)⟩⟩;rcases h2 with ⟨e1,e2,e3⟩|⟨τ,e,_,_⟩
 . exact .inl ⟨e2,e3⟩
 . exact .inr ⟨_,e⟩
end
end
structure Out (X:Rx) (r:Nat) (aj:St) (R:bi) (p:PR (List Nd)):Prop where
 ok:∀ns j,p=.ok ns j->j<=X.L.length->∀a aa,fH false [a] ns->gK r (rd X j) aj aa->R (.ret a) aa
 bad:∀j,p=.bad j->∀aa,gK r (rd X j) aj aa->R (.panic (Py X j)) aa
def Ct(X:Rx)(f:FuncId)(i:Nat)(p:PR (List Nd)):Prop:=∀(r:Nat)(U:St)(R:bi),U.box r=some (rd X i)->Out X r U R p->ag K f [.box r 0] U R
structure Sk (X:Rx) (aj:St) (r k i:Nat) (kind:Int) (text:aT) (n m at_:Int) (l:List Nd) (U:St):Prop where
 A:gK r (rd X i) aj U
 hi:i<=X.L.length
 M:∃ks,Mk aj U r k kind text n m at_ ks/\fH true ks l/\ks.length<=i
section
variable {X:Rx}{aj U:St}{r k i:Nat}{kind:Int}{text:aT}{n m at_:Int}{l:List Nd}{R:bi}{K':am}{Kp:am}{w:aT}{f:FuncId}
def Sk.jW(S:Sk X aj r k i kind text n m at_ l U){aa:St}{j:Nat}(A:gK r (rd X j) U aa)(hj:j<=X.L.length)(eF:i<=j):Sk X aj r k j kind text n m at_ l aa:=by
 obtain⟨ks,h1,h2,h3⟩:=S.M;exact⟨S.A.trans A,hj,ks,h1.jW A S.A.box,h2,d6⟩
def Out.jW{aa:St}{p:PR (List Nd)}{L:List AV}(O:Out X r U R p)(A:gK r L U aa):Out X r aa R p :=
 ⟨λns j h hj a aV k A2=>O.ok ns j h hj a aV k (A.trans A2),λj h aV A2=>O.bad j h aV (A.trans A2)⟩
def jq(hr:U.box r=some (rd X i))(hi:i<=X.L.length){kind:Int}(h:∀k aa,Sk X U r k i kind [] 0 0 (cT X.L X.E i) [] aa->K' (.box k 0) aa):ag K 99 [.box r 0,co kind] U (bD K' Kp) :=
 afc hr kind λk aa M A=>h k aa ⟨A,hi,[],M,.nil,d8⟩
def eJ{q:Unit->Nat->PR (List Nd)}(S:Sk X aj r k i kind text n m at_ l U)(O:Out X r aj R ((bR X.L w i).bind q))(h:∀aa,Sk X aj r k (i+1) kind text n m at_ l aa->Out X r aj R (q () (i+1))->K' (.az []) aa):ag K 102 [.box r 0,.str w] U (bD K' (aD R)) :=
 Iu S.A.box S.hi w (λe hl aa A=>h aa (S.jW A hl d6) (by rw[e]at O;exact O)) λe aa A=>O.bad _ (by rw[e];rfl) _ (S.A.trans A)
def px{q:aT->Nat->PR (List Nd)}(S:Sk X aj r k i kind text n m at_ l U)(O:Out X r aj R ((fO X.L i).bind q))(h:∀x aa,Sk X aj r k (i+1) kind text n m at_ l aa->Out X r aj R (q x (i+1))->K' (.str x) aa):ag K 101 [.box r 0] U (bD K' (aD R)) :=
 aeW S.A.box S.hi (λx e hl aa A=>h x aa (S.jW A hl d6) (by rw[e]at O;exact O)) λe aa A=>O.bad _ (by rw[e];rfl) _ (S.A.trans A)
def ry{q:Int->Nat->PR (List Nd)}(S:Sk X aj r k i kind text n m at_ l U)(O:Out X r aj R ((js X.L i).bind q))(h:∀x aa,Sk X aj r k (i+1) kind text n m at_ l aa->Out X r aj R (q x (i+1))->K' (bv x) aa):ag K 168 [.box r 0] U (bD K' (aD R)) :=
 U1 S.A.box S.hi (λx e hl aa A=>h x aa (S.jW A hl d6) (by rw[e]at O;exact O)) λe aa A=>O.bad _ (by rw[e];rfl) _ (S.A.trans A)
def uw(S:Sk X aj r k i kind text n m at_ l U)(h1:bP X.L i w->∀aa,Sk X aj r k (i+1) kind text n m at_ l aa->K' ce aa)(h2:bP X.L i w=false->∀aa,Sk X aj r k i kind text n m at_ l aa->K' ci aa):ag K 100 [.box r 0,.str w] U (bD K' Kp) :=
 MW S.A.box S.hi w (λe aa A=>h1 e aa (S.jW A (de e) d6)) λe aa A=>h2 e aa (S.jW (.mV S.A.box A) S.hi d6)
def ZR(S:Sk X aj r k i kind text n m at_ l U)(h:∀b aa,bP X.L i w=b->Sk X aj r k i kind text n m at_ l aa->K' (.bool b) aa) :
 (ai (some (9,1)) (some [AV.str []]) 1 false [(0,.str w)]).wp K U (λv U=>ag K 105 [.box r 0,v] U (bD K' Kp)) Kp:=by
 rw[fN];refine⟨d6,?_⟩;rw[eg (o:=0) (s:=1) rfl];refine⟨⟨rfl,rfl,by simp[bZ]⟩,?_⟩;rw[gS];refine⟨rfl,?_⟩;refine RM (l:=[w]) S.A.box S.hi d8 λaK e1=>?_;exact h _ _ (by rw[Ey]) (S.jW (.mV S.A.box e1) S.hi d6)
def py{x:aT}(S:Sk X aj r k i kind text n m at_ l U)(h:∀aa,Sk X aj r k i kind x n m at_ l aa->K' (.az []) aa):(dD (some (false,1)) (.box k 1) (.str x) U).wp K U K' Kp:=by
 obtain⟨ks,h1,h2,h3⟩:=S.M;exact h1.D1 (λkv=>⟨rfl,rfl,by simp[oc],rfl⟩) S.A λaa M A=>h aa ⟨A,S.hi,ks,M,h2,h3⟩
def EE{x:Int}(S:Sk X aj r k i kind text n m at_ l U)(h:∀aa,Sk X aj r k i x text n m at_ l aa->K' (.az []) aa):(dD (some (false,1)) (.box k 0) (co x) U).wp K U K' Kp:=by
 obtain⟨ks,h1,h2,h3⟩:=S.M;exact h1.D1 (λkv=>⟨rfl,rfl,by simp[oc],rfl⟩) S.A λaa M A=>h aa ⟨A,S.hi,ks,M,h2,h3⟩
def D0{x:Int}(S:Sk X aj r k i kind text n m at_ l U)(h:∀aa,Sk X aj r k i kind text x m at_ l aa->K' (.az []) aa):(dD (some (false,1)) (.box k 2) (bv x) U).wp K U K' Kp:=by
 obtain⟨ks,h1,h2,h3⟩:=S.M;exact h1.D1 (λkv=>⟨rfl,rfl,by simp[oc],rfl⟩) S.A λaa M A=>h aa ⟨A,S.hi,ks,M,h2,h3⟩
def akz{x:Int}(S:Sk X aj r k i kind text n m at_ l U)(h:∀aa,Sk X aj r k i kind text n x at_ l aa->K' (.az []) aa):(dD (some (false,1)) (.box k 3) (bv x) U).wp K U K' Kp:=by
 obtain⟨ks,h1,h2,h3⟩:=S.M;exact h1.D1 (λkv=>⟨rfl,rfl,by simp[oc],rfl⟩) S.A λaa M A=>h aa ⟨A,S.hi,ks,M,h2,h3⟩
def NN{a:AV}{ns:List Nd}{j:Nat}(S:Sk X aj r k j kind text n m at_ l U)(hj:∀ks,Mk aj U r k kind text n m at_ ks->fH true ks l->ks.length<=j->∃ks',Mk aj U r k kind text n m at_ ks'/\fH true ks' l/\ks'.length+1<=j)(hk:fH false [a] ns)(h:∀aa,Sk X aj r k j kind text n m at_ (l++ns) aa->K' (.box k 0) aa) :
 (ai (some (87,1)) (some [AV.bE]) 1 false [(0,a)]).wp K U (λv U=>ag K 103 [.box k 0,v] U (bD K' (aD R))) (aD R):=by
 have ha:a.dC/\al a=[a]:=by
  generalize hb:false=b at hk;generalize hl:[a]=la at hk;cases hk with
  | mk _ _=>cases hl;exact⟨rfl,rfl⟩
  | nil=>cases hl
  | cons _ _=>cases hb
 rw[fN];refine⟨d6,?_⟩;rw[eg (o:=0) (s:=1) rfl];refine⟨⟨ha.1,by rw[ha.2];rfl,by simp[bZ]⟩,?_⟩;rw[gS];rw[ha.2];refine⟨rfl,?_⟩;obtain⟨ks0,g1,g2,g3⟩:=S.M;obtain⟨ks,h1,h2,h3⟩:=hj ks0 g1 g2 g3;have:=X.small;have hi:=S.hi;refine afU (l2:=[a]) h1 S.A d6 rfl d6 λaa M A=>?_;exact h aa ⟨A,S.hi,_,M,h2.snoc hk,by simp;omega⟩
def ko{p:PR (List Nd)}{q:List Nd->Nat->PR (List Nd)}(S:Sk X aj r k i kind text n m at_ l U)(C:Ct X f i p)(hp:Gd X.L.length (i+1) i p)(O:Out X r aj R (p.bind q))
 (h:∀ns j aa,j<=X.L.length->i<j->Sk X aj r k j kind text n m at_ (l++ns) aa->Out X r aj R (q ns j)->K' (.box k 0) aa) :
 ag K f [.box r 0] U (bD (λv U=>(ai (some (87,1)) (some [AV.bE]) 1 false [(0,v)]).wp K U (λv U=>ag K 103 [.box k 0,v] U (bD K' (aD R))) (aD R)) (aD R)):=by
 refine C r U _ S.A.box ⟨λns j e hj a aa hk A=>?_,λj e aa A=>O.bad j (by rw[e];rfl) aa (S.A.trans A)⟩;rw[e]at hp O;have eF:i<j:=hp.1;have S1:=S.jW A hj d6;refine NN S1 (λks _ _ _=>?_) hk λaV S2=>h ns j aV hj eF S2 O;obtain⟨ks,h1,h2,h3⟩:=S.M;exact⟨ks,h1.jW A S.A.box,h2,d6⟩
def fX(S:Sk X aj r k i kind text n m at_ l U)(O:Out X r aj R (.ok (node kind text n m at_ l) i)):aq R (.box k 0) U:=by
 obtain⟨ks,h1,h2,h3⟩:=S.M;exact h1.done h2 S.A λa aa hk A=>O.ok _ _ rfl S.hi a aa hk A
def Hs:aD (bD K' Kp)=Kp:=rfl
def Lf{lV:FuncId}(he:gP K.P lV){c:List AV}:(kQ K.P (.func (.func lV) [.box r 0] []) []).wp K U K' Kp=ag K lV [.box r 0] U (bD K' Kp):=by
 simp[kQ,he]
def It{one:Nat->PR (List Nd)}{lV:FuncId}(he:gP K.P lV)(C:∀i,i<=X.L.length->Ct X lV i (one i))(hg:∀i,i<=X.L.length->Gd X.L.length (i+1) i (one i))
 {fu:Nat} (hf:X.L.length-i<=fu) (h0:0<fu) {q:List Nd->Nat->PR (List Nd)} (S:Sk X aj r k i kind text n m at_ l U) (O:Out X r aj R ((mF X.L one fu i).bind q))
 (h:∀ns j aa,j<=X.L.length->i<j->Sk X aj r k j kind text n m at_ (l++ns) aa->Out X r aj R (q ns j)->K' (.az []) aa):ag K 106 [.box r 0,.box k 0,.func (.func lV) [.box r 0] []] U (bD K' (aD R)):=by
 refine Kh ?_;dsimp only[Nx,ae,ak,fU,aQ,ah,aC];rw[Lf he (c:=[])];have e:(mF X.L one fu i).bind q=(one i).bind λa j=>(mG X.L one fu a j).bind q:=by
  unfold mF;cases one i<;>rfl
 rw[e]at O;simp only[Hs];refine ko S (C i S.hi) (hg i S.hi) O λns j aK hj eF S1 O1=>?_;refine⟨λmm v0 v1 v2 aa=>∃acc j f',mm=X.L.length-j/\v0=.box r 0/\v1=.box k 0/\v2=.func (.func lV) [.box r 0] []/\j<=X.L.length/\i<j/\X.L.length-j<f'/\Sk X aj r k j kind text n m at_ (l++acc) aa/\Out X r aj R ((mG X.L one f' acc j).bind q),
  ⟨_,ns,j,fu,rfl,rfl,rfl,rfl,hj,eF,d6,S1,O1⟩,?_⟩
 rintro mm v0 v1 v2 aV ⟨acc,j2,f',rfl,rfl,rfl,rfl,p7,Br,mD,S2,O2⟩;cases f' with
 | zero=>omega
 | succ f' =>
   unfold mG at O2;refine uw S2 (λhw bG S3=>?_) (λhw bG S3=>?_)
   . simp only[aL];rw[if_pos hw]at O2;have aA:=de hw;rw[Lf he (c:=[])];have e2:((one (j2+1)).bind λb j=>mG X.L one f' (acc++b) j).bind q=(one (j2+1)).bind λb j=>(mG X.L one f' (acc++b) j).bind q:=by
      cases one (j2+1)<;>rfl
     rw[e2]at O2;refine ko S3 (C _ aA) (hg _ aA) O2 λui j3 cI Jv ajF S4 O4=>?_;refine⟨_,?_,acc++ui,j3,f',rfl,rfl,rfl,rfl,Jv,d6,d6,by rw[<-lG];exact S4,O4⟩;omega
   . simp only[aG];rw[if_neg (by rw[hw];simp)]at O2;exact aq.mk (h acc j2 bG p7 Br S3 O2)
end
end Go.Rip
