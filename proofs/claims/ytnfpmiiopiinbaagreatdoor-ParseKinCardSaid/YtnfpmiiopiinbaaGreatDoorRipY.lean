/- Lemmas for the proof: no conditions. -/
import Derived.Test.YtnfpmiiopiinbaaGreatDoorRipZz
import Derived.Test.YtnfpmiiopiinbaaGreatDoorRipW
import Derived.Test.YtnfpmiiopiinbaaGreatDoorRipH
import Derived.Test.YtnfpmiiopiinbaaGreatDoorRipG
import Derived.Test.YtnfpmiiopiinbaaGreatDoorRipP
set_option linter.unusedVariables false
set_option linter.unusedSimpArgs false
set_option linter.loopingSimpArgs false
namespace Go.Rip
open Go.Proofs Go.RowKit
theorem Fe (k : Int) : Pure K 179 [.int .u8 k] (.bool (yf k)) := by
 intro U R hR
 refine IN ?_
 unfold IM
 rw [fK, ag]
 refine Me (fun _ => hZ ..) (aj.eq hR ?_)
 simp only [yf, AV.bool.injEq]; grind
theorem wX (k : Int) : Pure K 206 [.int .u8 k] (.bool (uu k)) := by
 intro U R hR
 refine IV ?_
 unfold IU
 rw [bf, ag]
 refine El (fun _ => bf ..) (aj.eq hR ?_)
 simp only [uu, AV.bool.injEq]; grind
theorem Fi (k : Int) : Pure K 181 [.int .u8 k] (.bool (yg k)) := by
 intro U R hR
 refine IQ ?_
 unfold IP
 refine (wX k).go ?_
 refine El (fun _ => bf ..) (aj.eq hR ?_)
 simp only [uu, yg, AV.bool.injEq]; grind
theorem wZ (k : Int) : Pure K 185 [.int .u8 k] (.bool (uv k)) := by
 intro U R hR
 refine IT ?_
 unfold IS
 rw [fK, ag]
 refine Me (fun _ => hZ ..) (aj.eq hR ?_)
 simp only [uv, AV.bool.injEq]; grind
theorem Hy (k : Int) : Pure K 207 [.int .u8 k] (.bool (Bl k)) := by
 intro U R hR
 refine IX ?_
 unfold IW
 refine (wZ k).go ?_
 refine El (fun _ => bf ..) ?_
 refine El (fun _ => bf ..) (aj.eq hR ?_)
 simp only [uv, Bl, AV.bool.injEq]; grind
theorem Ff (k c : Int) : Pure K 242 [.int .u8 k, .bL [.int .u8 c]] (.bool (decide (k = c))) := by
 intro U R hR
 refine Jh ?_
 unfold Jg
 rw [o8, bD]
 exact FI (aj.mk hR)
theorem ln (a b n : Int) : Pure K 122 [.int .i64 a, .int .i64 b, .int .i64 n] (.bool (decide (a <= n /\ n <= b))) := by
 intro U R hR
 refine HV ?_
 unfold HU
 refine Sw ?_
 by_cases h : a <= n
 · simp only [h, cV, aT, fC]
   refine jd (jd ?_)
   rw [hZ]
   refine jd ?_
   simp only [aG, if_true, ag]
   refine aj.eq hR ?_
   simp [h]
 · simp only [h, db, aT, show (false == true) = false from rfl, aI, bS, aG, bl, if_false, ag]
   refine aj.eq hR ?_
   simp [h]
def sX : FU -> AV
 | .item => .func (.func 179) [] []
 | .type => .func (.func 181) [] []
 | .base => .func (.func 206) [] []
 | .term => .func (.func 185) [] []
 | .arg => .func (.func 207) [] []
 | .kind c => .func (.func 242) [] [.bL [.int .u8 c]]
theorem PW {c : FU} {k : Int} {U : St} {K' : AV -> St -> Prop} {Kp : AV -> St -> Prop} (h : K' (.bool (c.is k)) U) : (eT K.P (sX c) [.int .u8 k]).wp K U K' Kp := by
 cases c with
 | item => simp only [sX, eT, show cX K.P 179 = true by kernel_rfl, if_true, gI, iN, jI]; exact (Fe k).go h
 | type => simp only [sX, eT, show cX K.P 181 = true by kernel_rfl, if_true, gI, iN, jI]; exact (Fi k).go h
 | base => simp only [sX, eT, show cX K.P 206 = true by kernel_rfl, if_true, gI, iN, jI]; exact (wX k).go h
 | term => simp only [sX, eT, show cX K.P 185 = true by kernel_rfl, if_true, gI, iN, jI]; exact (wZ k).go h
 | arg => simp only [sX, eT, show cX K.P 207 = true by kernel_rfl, if_true, gI, iN, jI]; exact (Hy k).go h
 | kind c => simp only [sX, eT, show cX K.P 242 = true by kernel_rfl, if_true, gI, iN, jn]; exact (Ff k c).go h
def iQ (s : mJ) : List AV := [sX s.c, .int .i64 (s.least : Nat), .int .i64 (s.mT : Nat)]
def jO (l : List mJ) : List AV := l.flatMap iQ
def gX (l : List mJ) : AV := if l = [] then .aq else .vec l.length .full (jO l)
def jE (f : C2) : List AV := [.bool f.text, .bool f.n, .bool f.m, gX f.kids]
theorem BY (L : List mJ) : (jO L).length = 3 * L.length := by
 induction L with
 | nil => rfl
 | cons t L ih =>
   have : (jO (t :: L)).length = 3 + (jO L).length := by simp [jO, iQ]; omega
   rw [this, ih, mB]; omega
theorem xk (L : List mJ) (i : Nat) : (jO L).drop (i * 3) = jO (L.drop i) := by
 induction L generalizing i with
 | nil => simp [jO]
 | cons t L ih =>
   cases i with
   | zero => simp
   | succ i =>
     rw [Nat.add_mul, show i * 3 + 1 * 3 = 3 + i * 3 by omega, <- List.drop_drop, List.drop_succ_cons, <- ih]
     rfl
theorem LF {L : List mJ} {i : Nat} {t : mJ} (h : L[i]? = some t) : ∃ r, (jO L).drop (i * 3) = iQ t ++ r := by
 rw [xk, fT (cT.1 h).1]
 refine ⟨jO (L.drop (i + 1)), ?_⟩
 have := (cT.1 h).2
 simp [jO, this]
theorem LG (l : List mJ) : eS (gX l) l.length (jO l) := by
 unfold gX
 split
 · rename_i h; subst h; exact .inl ⟨rfl, rfl, rfl⟩
 · exact .inr ⟨_, rfl⟩
theorem NB {v : AV} {ss : List mJ} {s : mJ} {i : Nat} {U : St} {K' : AV -> St -> Prop} {Kp : AV -> St -> Prop} (hv : eS v ss.length (jO ss)) (hs : ss[i]? = some s) (hk : K' (.agg (iQ s)) U) :
 (aJ (some (200, 3)) none v (.int .i64 (i : Nat))).wp K U (fun p U => (ao (some (true, 3)) p U).wp K U K' Kp) Kp := by
 have aH := (cT.1 hs).1
 obtain ⟨c, rfl, nP⟩ := hv.at (sz := 3) (e := 200) aH
 obtain ⟨r, hr⟩ := LF hs
 rw [nP, hr]
 refine ⟨by omega, ?_⟩
 rw [ag, yF]
 refine ⟨by simp [iQ], ?_⟩
 have : (iQ s ++ r).take 3 = iQ s := by simp [iQ]
 rw [this]; exact hk
theorem zl {k : Int} {z : AV} : ∀ (ks : List Int) (vs : List AV), (∀ j ∈ ks, j ≠ k) -> jf .i (.int .u8 k) z true (ks.map (.int .u8)) vs = .val (.aL [z, .bool false])
 | [], vs, _ => by cases vs <;> rfl
 | j :: ks, [], _ => rfl
 | j :: ks, v :: vs, h => by
   have hj : ¬ k = j := fun e => h j (by simp) e.symm
   have : eD .i (.int .u8 k) (.int .u8 j) = some false := by simp [eD, hj]
   simp only [de, jf, this, bl, if_false]
   exact zl ks vs fun x hx => h x (by simp [hx])
def Cj : AV := .agg [AV.bool false, AV.bool false, AV.bool false, AV.aq]
def Ht (n : Nat) : Bool := match kW with
 | .dL ks vs => (match jf .i (.int .u8 n) Cj true ks vs with
   | .val v => fE v (match gg n with | some f => .aL [.agg (jE f), .bool true] | none => .aL [Cj, .bool false])
   | _ => false)
 | _ => false
theorem Fc : ∀ n : Fin 38, Ht n.val = true := by decide +kernel
end Go.Rip
namespace Go.Rip
open Go.Proofs Go.RowKit
theorem CJ (ks : List Int) : (jG ks).length = ks.length := by simp [jG]
theorem Tp {U : St} {v : AV} {ks : List Int} {i e : Nat} {k : Int} {kq : AV -> AV -> Prop} (hv : eS v ks.length (jG ks)) (hk : ks[i]? = some k) (h : ∀ L, kq (.bL L) (.int .u8 k)) :
 ah K (.bool true) (aJ (some (e, 1)) none v (.int .i64 (i : Nat))) fun p => ah K (.bool true) (ao (some (false, 1)) p U) (kq p) := by
 have aH := (cT.1 hk).1
 obtain ⟨c, rfl, nP⟩ := hv.at (sz := 1) (e := e) aH
 obtain ⟨r, hr⟩ := NW hk
 rw [nP, Nat.mul_one, hr]
 exact oX ⟨by omega, oX (h _)⟩
theorem Q5 {v : AV} {ks : List Int} {i : Nat} {e : Nat} {U : St} {K' : AV -> St -> Prop} {Kp : AV -> St -> Prop} (hv : eS v ks.length (jG ks)) (hi : i <= ks.length) (hk : ∀ v', eS v' (ks.drop i).length (jG (ks.drop i)) -> K' v' U) :
 (fi false (some (e, 1)) v (some (.int .i64 (i : Nat))) none).wp K U K' Kp := by
 rcases hv with ⟨h0, h1, rfl⟩ | ⟨c, rfl⟩
 · have iD : ks = [] := tN.1 h0
   subst iD
   have AO : i = 0 := by simpa using hi
   subst AO
   simp only [fi, cI, wp_cond, ag]
   refine ⟨by simp, hk _ (.inl ⟨rfl, rfl, rfl⟩)⟩
 · rw [zy, jT, ja]
   refine ⟨by omega, ?_⟩
   refine hk _ (.inr ⟨rl c none, ?_⟩)
   have : ks.length - i = (ks.drop i).length := by rw [List.length_drop]
   simp only [eF, Nat.mul_one, this]
   rw [vN (by rw [CJ]; exact cA _)]
   congr 1
   simp [jG, List.map_drop]
theorem Ow {ss : List mJ} {i : Nat} {U : St} {K' : AV -> St -> Prop} {Kp : AV -> St -> Prop} (hi : i < ss.length) (hk : ∀ v', eS v' (ss.drop (i + 1)).length (jO (ss.drop (i + 1))) -> K' v' U) :
 (fi false (some (200, 3)) (gX ss) (some (.int .i64 ((i : Nat) + 1))) none).wp K U K' Kp := by
 have bX : ss ≠ [] := by intro e; subst e; simp at hi
 unfold gX
 rw [if_neg bX, zy, jT, ja]
 refine ⟨by omega, ?_⟩
 refine hk _ (.inr ⟨rl .full none, ?_⟩)
 have : (ss.length : Int).toNat - ((i : Int) + 1).toNat = (ss.drop (i + 1)).length := by rw [List.length_drop]; omega
 rw [this]
 congr 1
 rw [eF, vN (by rw [BY]; omega), show ((i : Int) + 1).toNat = i + 1 by omega, xk]
def pE (ks : List Int) (s : mJ) (rest : Nat) : Nat := ((ks.take (min (ks.length - rest) s.mT)).takeWhile s.c.is).length
theorem Gl (ks : List Int) (s : mJ) (ss : List mJ) : mf ks (s :: ss) = if pE ks s (ss.map (·.least)).sum < s.least then false else mf (ks.drop (pE ks s (ss.map (·.least)).sum)) ss := by
 rw [mf]; rfl
theorem yD {p : Int -> Bool} : ∀ {l : List Int} {i : Nat}, (∀ j (h : j < l.length), j < i -> p l[j] = true) -> i <= l.length -> (i = l.length \/ ∃ h : i < l.length, p l[i] = false) -> (l.takeWhile p).length = i
 | [], i, _, hi, _ => by simp at hi; simp [hi]
 | a :: l, 0, _, _, he => by
   rcases he with he | ⟨h, he⟩
   · simp at he
   · rw [rV]; simp at he; simp [he]
 | a :: l, i + 1, bw, hi, he => by
   have ha : p a = true := bw 0 (by simp) (by omega)
   rw [rV, if_pos ha, mB]
   congr 1
   refine yD (fun j h hj => ?_) (by simpa using hi) ?_
   · have := bw (j + 1) (by simp; omega) (by omega)
     simpa using this
   · rcases he with he | ⟨h, he⟩
     · left; simpa using he
     · right; exact ⟨by simpa using h, by simpa using he⟩
theorem P1 {U : St} {R : cm -> St -> Prop} {v : AV} {ks : List Int} {ss : List mJ} (hv : eS v ks.length (jG ks)) (hl : ks.length <= 100000) (kY : ss.length <= 100) (mi : ∀ s ∈ ss, s.least <= 1000 /\ s.mT <= 1000)
 (h : ∀ ad, cF U ad -> R (.ret (.bool (mf ks ss))) ad) : ae K 209 [v, gX ss] U R := by
 refine I6 ?_
 unfold I0
 have U8 := LG ss
 have hlen : bZ (some false) (gX ss) = .val (.int .i64 ss.length) := U8.len
 rw [hlen, ag]
 refine ⟨fun m v0 v1 v11 v12 cB ad => ∃ (i : Nat) (ks' : List Int), m = ss.length - i /\ v1 = gX ss /\ v11 = gX ss /\ v12 = .int .i64 ss.length /\ cB = .int .i64 (i : Nat) /\ i <= ss.length /\ eS v0 ks'.length (jG ks') /\ ks'.length <= ks.length /\ mf ks' (ss.drop i) = mf ks ss /\ cF U ad,
  ⟨_, 0, ks, rfl, rfl, rfl, rfl, rfl, by omega, hv, cA _, rfl, cF.refl _⟩, ?_⟩
 rintro m v0 v1 v11 v12 cB bM ⟨i, ks', rfl, rfl, rfl, rfl, rfl, hi, ME, Dr, kI, e1⟩
 refine Cf (fun aH => ?_) fun iX => ?_
 · have aH : i < ss.length := by omega
   obtain ⟨s, hs⟩ : ∃ s, ss[i]? = some s := ⟨ss[i], by simp [aH]⟩
   have Dv := mi s (fw hs)
   have Ty : ss.drop i = s :: ss.drop (i + 1) := by
    rw [fT aH]
    have := (cT.1 hs).2
    rw [this]
   refine NB U8 hs ?_
   rw [dv]
   intro b6 pj
   have m6 : (bM.new b6 (.box [AV.cx, AV.int .i64 0, AV.int .i64 0])).box b6 = some [AV.cx, AV.int .i64 0, AV.int .i64 0] := aN
   have e2 := e1.new pj (x := .box [AV.cx, AV.int .i64 0, AV.int .i64 0])
   have f6 := e1.fresh pj.1
   generalize bM.new b6 (.box [AV.cx, AV.int .i64 0, AV.int .i64 0]) = bN at *
   rw [dh m6]
   refine ⟨⟨rfl, rfl, by simp⟩, ?_⟩
   have g6 : (bN.set b6 (.box (aB [AV.cx, AV.int .i64 0, AV.int .i64 0] 0 (au (.agg (iQ s)))))).box b6 = some (iQ s) := by rw [aZ]; rfl
   have e3 := e2.set f6 (x := .box (aB [AV.cx, AV.int .i64 0, AV.int .i64 0] 0 (au (.agg (iQ s)))))
   generalize bN.set b6 (.box (aB [AV.cx, AV.int .i64 0, AV.int .i64 0] 0 (au (.agg (iQ s))))) = cC at *
   rw [cW]
   refine ⟨bh (by omega) (by omega), ?_⟩
   refine Ow aH fun v21 UA => ?_
   have QE : bZ (some false) v21 = .val (.int .i64 (ss.drop (i + 1)).length) := UA.len
   rw [QE, ag]
   generalize EB : ss.drop (i + 1) = rest at *
   have ZO : rest.length <= 100 := by rw [<- EB, List.length_drop]; omega
   have U5 : ∀ s ∈ rest, s.least <= 1000 := fun s hs => (mi s (by rw [<- EB] at hs; exact List.mem_of_mem_drop hs)).1
   have KD : ∀ n, ((rest.take n).map (·.least)).sum <= 1000 * n := by
    have : ∀ (l : List mJ) (n : Nat), (∀ s ∈ l, s.least <= 1000) -> ((l.take n).map (·.least)).sum <= 1000 * n := by
     intro l
     induction l with
     | nil => intro n _; simp
     | cons a l ih =>
       intro n hm
       cases n with
       | zero => simp
       | succ n =>
         have := ih n fun s hs => hm s (by simp [hs])
         have := hm a (by simp)
         simp only [List.take_succ_cons, de, List.sum_cons]; omega
    exact fun n => this rest n U5
   refine ⟨fun m w0 w1 w6 w7 zA JI JJ VC VD VE ad => ∃ j : Nat, m = rest.length - j /\ w0 = v0 /\ w1 = gX ss /\ w6 = .box b6 0 /\ w7 = .int .i64 (((rest.take j).map (·.least)).sum : Nat) /\ zA = gX ss /\ JI = .int .i64 ss.length /\ JJ = .int .i64 (i : Nat) /\ VC = v21 /\ VD = .int .i64 rest.length /\ VE = .int .i64 (j : Nat) /\ j <= rest.length /\ ad.box b6 = some (iQ s) /\ cF U ad,
    ⟨_, 0, rfl, rfl, rfl, rfl, rfl, rfl, rfl, rfl, rfl, rfl, rfl, by omega, g6, e3⟩, ?_⟩
   clear e2 e3 g6 m6 pj
   rintro m w0 w1 w6 w7 zA JI JJ VC VD VE cU ⟨j, rfl, rfl, rfl, rfl, rfl, rfl, rfl, rfl, rfl, rfl, rfl, hj, g6, e4⟩
   refine Cf (fun AW => ?_) fun Zx => ?_
   · have AW : j < rest.length := by omega
     obtain ⟨s2, yY⟩ : ∃ s2, rest[j]? = some s2 := ⟨rest[j], by simp [AW]⟩
     refine NB UA yY ?_
     rw [dv]
     intro b9 Mh
     have m9 : (cU.new b9 (.box [AV.cx, AV.int .i64 0, AV.int .i64 0])).box b9 = some [AV.cx, AV.int .i64 0, AV.int .i64 0] := aN
     have e5 := e4.new Mh (x := .box [AV.cx, AV.int .i64 0, AV.int .i64 0])
     have f9 := e4.fresh Mh.1
     have n9 := Mh.ca g6
     have Uy := (bz Mh (x := .box [AV.cx, AV.int .i64 0, AV.int .i64 0])).bA g6
     generalize cU.new b9 (.box [AV.cx, AV.int .i64 0, AV.int .i64 0]) = dw at *
     rw [dh m9]
     refine ⟨⟨rfl, rfl, by simp⟩, ?_⟩
     have g9 : (dw.set b9 (.box (aB [AV.cx, AV.int .i64 0, AV.int .i64 0] 0 (au (.agg (iQ s2)))))).box b9 = some (iQ s2) := by rw [aZ]; rfl
     have VN : (dw.set b9 (.box (aB [AV.cx, AV.int .i64 0, AV.int .i64 0] 0 (au (.agg (iQ s2)))))).box b6 = some (iQ s) := by rw [aP n9]; exact Uy
     have e6 := e5.set f9 (x := .box (aB [AV.cx, AV.int .i64 0, AV.int .i64 0] 0 (au (.agg (iQ s2)))))
     generalize dw.set b9 (.box (aB [AV.cx, AV.int .i64 0, AV.int .i64 0] 0 (au (.agg (iQ s2))))) = nD at *
     simp only [aU, ag, ck]
     refine dx g9 rfl ?_
     have fq := KD j
     have gK := U5 s2 (fw yY)
     rw [cW]
     refine ⟨bh (by omega) (by omega), ?_⟩
     rw [cW]
     refine ⟨bh (by omega) (by omega), rest.length - (j + 1), by omega, j + 1, rfl, rfl, rfl, rfl, ?_, rfl, rfl, rfl, rfl, rfl, by simp, AW, VN, e6⟩
     have : rest.take (j + 1) = rest.take j ++ [s2] := by rw [tP, yY]; rfl
     rw [this]; simp
   · have hj : j = rest.length := by omega
     subst hj
     rw [tO]
     have fq := KD rest.length
     rw [tO] at fq
     generalize Wg : (rest.map (·.least)).sum = sm at *
     have Tx : mf ks' (s :: rest) = if pE ks' s sm < s.least then false else mf (ks'.drop (pE ks' s sm)) rest := by rw [Gl, Wg]
     rw [Ty, Tx] at kI
     refine ⟨fun m u0 w1 w6 w7 VB zA JI JJ ad => ∃ q : Nat, m = ks'.length - q /\ u0 = w0 /\ w1 = gX ss /\ w6 = .box b6 0 /\ w7 = .int .i64 (sm : Nat) /\ VB = .int .i64 (q : Nat) /\ zA = gX ss /\ JI = .int .i64 ss.length /\ JJ = .int .i64 (i : Nat) /\ q <= min (ks'.length - sm) s.mT /\ (∀ (p : Nat) (hp : p < ks'.length), p < q -> s.c.is ks'[p] = true) /\ ad.box b6 = some (iQ s) /\ cF U ad,
      ⟨_, 0, rfl, rfl, rfl, rfl, rfl, rfl, rfl, rfl, rfl, by omega, fun p hp h => by omega, g6, e4⟩, ?_⟩
     clear g6 e4
     rintro m u0 w1 w6 w7 VB zA JI JJ dw ⟨q, rfl, rfl, rfl, rfl, rfl, rfl, rfl, rfl, rfl, hq, bw, g6, e5⟩
     intro jj uT
     have EA : bZ (some false) u0 = .val (.int .i64 ks'.length) := ME.len
     have stop : pE ks' s sm = q -> jj u0 (gX ss) (.box b6 0) (.int .i64 (sm : Nat)) (.int .i64 (q : Nat)) (gX ss) (.int .i64 ss.length) (.int .i64 (i : Nat)) (.bool false) dw := fun Yf => by
      refine uT _ _ _ _ _ _ _ _ _ _ ?_
      refine dP ?_
      simp only [aU, ag, ck]
      refine dx g6 rfl ?_
      rw [Yf] at kI
      refine Cf (fun Ye => ?_) fun Ye => ?_
      · rw [if_pos (by omega)] at kI
        refine aj.mk ?_
        rw [kI]; exact h _ e5
      · rw [if_neg (by omega)] at kI
        refine Q5 ME (by omega) fun sK Xs => ?_
        rw [cW]
        refine ⟨bh (by omega) (by omega), ss.length - (i + 1), by omega, i + 1, ks'.drop q, rfl, rfl, rfl, rfl, by simp, aH, Xs, by simp; omega, ?_, e5⟩
        rw [EB]; exact kI
     have go : q < min (ks'.length - sm) s.mT -> (∀ k, ks'[q]? = some k -> s.c.is k = true) -> jj u0 (gX ss) (.box b6 0) (.int .i64 (sm : Nat)) (.int .i64 (q : Nat)) (gX ss) (.int .i64 ss.length) (.int .i64 (i : Nat)) (.bool true) dw := fun ZN Yu => by
      refine uT _ _ _ _ _ _ _ _ _ _ ?_
      refine dF ?_
      rw [cW]
      refine ⟨bh (by omega) (by omega), ks'.length - (q + 1), by omega, q + 1, rfl, rfl, rfl, rfl, rfl, by simp, rfl, rfl, rfl, by omega, fun p hp My => ?_, g6, e5⟩
      rcases ga p q with aH | iX
      · exact bw p hp aH
      · have : p = q := by omega
        subst this; exact Yu _ (by simp [hp])
     have mT : q = min (ks'.length - sm) s.mT -> pE ks' s sm = q := fun Yr => by
      unfold pE
      rw [<- Yr]
      refine yD (fun p hp My => ?_) (by simp; omega) (.inl (by simp; omega))
      have := bw p (by simp at hp; omega) My
      simpa using this
     simp only [EA, aC, fL, dI, fP]
     refine ⟨bh (by omega) (by omega), ?_⟩
     rw [bO, aC]
     by_cases h1 : (q : Int) < (ks'.length : Int) - (sm : Nat)
     · simp only [h1, cV, aT, fC]
       refine jd (P4 (P5 g6 rfl ?_))
       rw [bO]
       refine jd ?_
       simp only [aG, if_true, aC]
       by_cases h2 : (q : Int) < (s.mT : Nat)
       · have Yt : q < ks'.length := by omega
         have hx : ks'[q]? = some ks'[q] := by simp [Yt]
         simp only [h2, cV, aT, fC]
         refine P4 (P5 g6 rfl (jd (jd (Tp ME hx fun L => ?_))))
         refine dF ?_
         refine PW ⟨fun b hb => rfl, ?_⟩
         simp only [aG, if_true, aC]
         cases hc : s.c.is ks'[q] with
         | true => exact go (by omega) fun k hk => by rw [hx] at hk; cases hk; exact hc
         | false =>
           refine stop ?_
           unfold pE
           refine yD (fun p hp My => ?_) (by simp; omega) (.inr ⟨by simp; omega, by simpa using hc⟩)
           have := bw p (by simp at hp; omega) My
           simpa using this
       · simp only [h2, db, aT, show (false == true) = false from rfl, aI, bS, aG, bl, if_false, aC]
         exact dP (stop (mT (by omega)))
     · simp only [h1, db, aT, show (false == true) = false from rfl, aI, bS, aG, bl, if_false, aC]
       exact dP (stop (mT (by omega)))
 · have hi : i = ss.length := by omega
   subst hi
   rw [List.drop_length] at kI
   have EA : bZ (some false) v0 = .val (.int .i64 ks'.length) := ME.len
   rw [EA, ag]
   refine FI (aj.eq (h _ e1) ?_)
   rw [<- kI, mf, AV.bool.injEq, mC, List.isEmpty_iff, dp]
   constructor
   · intro h; exact tN.1 (by omega)
   · rintro rfl; rfl
end Go.Rip
namespace Go.Rip
open Go.Proofs Go.RowKit
def Bn (l : List Nd) (en : Int) : Nat -> Nat -> Nat
 | 0, p => p
 | f + 1, p => match l[p]? with
   | some x => if (p : Int) < en /\ 0 < x.size then Bn l en f (p + x.size.toNat) else p
   | none => p
def behind (l : List Nd) (p : Nat) (ks : List Nat) : Nat := ks.foldl (fun _ k => k + cq l k) p
theorem uJ (l : List Nd) (p : Nat) (ks : List Nat) (k : Nat) : behind l p (ks ++ [k]) = k + cq l k := by simp [behind]
theorem zg (l : List Nd) (en : Int) : ∀ (f p : Nat), behind l p (ej l en f p) = Bn l en f p
 | 0, p => rfl
 | f + 1, p => by
   simp only [ej, Bn]
   cases hx : l[p]? with
   | none => rfl
   | some x =>
     simp only
     by_cases h : (p : Int) < en /\ 0 < x.size
     · rw [if_pos h, if_pos h, <- zg l en f]
       have : cq l p = x.size.toNat := by unfold cq; rw [hx]; rfl
       simp only [behind, List.foldl_cons, this]
     · rw [if_neg h, if_neg h]; rfl
theorem zh {l : List Nd} (hs : sO l) {en : Nat} (Mi : en <= l.length) : ∀ (f p : Nat), Bn l en f p = nk l en f p
 | 0, p => rfl
 | f + 1, p => by
   simp only [Bn]
   by_cases hp : p < en
   · have aH : p < l.length := by omega
     have hx : l[p]? = some l[p] := by simp [aH]
     have := hs.2.2 p _ hx
     rw [sj hx hp, hx]
     simp only
     rw [if_pos ⟨by omega, by omega⟩]
     exact zh hs Mi f _
   · rw [sk hp]
     split
     · rw [if_neg (fun h => hp (by omega))]
     · rfl
def eO (l : List Nd) (ks : List Nat) : List Int := ks.map fun k => ((l[k]?.map Nd.kind).getD 0)
def fO (l : List Nd) (n : Nat) (x : Nd) : Bool := match gg x.kind with
 | none => false
 | some f => decide (1 <= x.size /\ x.size <= (l.length : Int) - n) && (jV x f && ((ej l ((n : Int) + x.size) l.length (n + 1)).all (fun k => decide (1 <= cq l k /\ (k : Int) + cq l k <= n + x.size)) &&
    (decide (((behind l (n + 1) (ej l ((n : Int) + x.size) l.length (n + 1)) : Nat) : Int) = n + x.size) && mf (eO l (ej l ((n : Int) + x.size) l.length (n + 1))) f.kids)))
theorem zm {l : List Nd} {n : Nat} {s : Tre} {x : Nd} (hs : dT l n s) (hx : l[n]? = some x) : fO l n x = rL x (s.kids.map Tre.kind) := by
 obtain ⟨y, hy, _, cY, _⟩ := hs.mK
 rw [hx] at hy; cases hy
 have hle := hs.le
 have lB := s.cP
 have hk : ej l ((n : Int) + x.size) l.length (n + 1) = bR (n + 1) s.kids := by rw [cY]; exact vE hs
 have AN := jc s
 have et : ∀ (ts : List Tre) (p : Nat), hU l p ts -> (bR p ts).all (fun k => decide (1 <= cq l k /\ (k : Int) + cq l k <= (p : Int) + (Tre.a7 ts).length)) = true /\ behind l p (bR p ts) = p + (Tre.a7 ts).length /\ eO l (bR p ts) = ts.map Tre.kind := by
  intro ts
  induction ts with
  | nil => intro p _; simp [bR, behind, eO]
  | cons t ts ih =>
    intro p yd
    obtain ⟨z, hz, YJ, qC, _⟩ := yd.head.mK
    have ZQ := t.cP
    have Ba : cq l p = t.flat.length := by unfold cq; rw [hz]; simp; omega
    obtain ⟨i1, i2, i3⟩ := ih _ yd.tail
    refine ⟨?_, ?_, ?_⟩
    · simp only [bR, List.all_cons, bF, dp, Ba, Tre.cb, eG]
      refine ⟨⟨by omega, by omega⟩, ?_⟩
      rw [dU] at i1 ⊢
      intro k hk
      have := i1 k hk
      simp only [dp] at this ⊢
      omega
    · simp only [bR, behind, List.foldl_cons, Ba]
      have : behind l (p + t.flat.length) (bR (p + t.flat.length) ts) = p + (Tre.a7 (t :: ts)).length := by rw [i2]; simp; omega
      exact this
    · simp only [bR, eO, de, hz, Option.map_some, Option.getD_some, YJ]
      congr 1
 obtain ⟨h1, h2, h3⟩ := et s.kids (n + 1) hs.kids
 unfold fO rL Kf
 cases hf : gg x.kind with
 | none => simp
 | some f =>
   simp only
   rw [hk, yP hf, h2, h3]
   have e1 : decide (1 <= x.size /\ x.size <= (l.length : Int) - n) = true := by rw [dp]; omega
   have e2 : (bR (n + 1) s.kids).all (fun k => decide (1 <= cq l k /\ (k : Int) + cq l k <= n + x.size)) = true := by
    rw [dU] at h1 ⊢
    intro k hk
    have := h1 k hk
    simp only [dp] at this ⊢
    omega
   have e3 : decide (((n + 1 + (Tre.a7 s.kids).length : Nat) : Int) = n + x.size) = true := by rw [dp]; omega
   rw [e1, e2, e3]; simp
theorem u3 {l : List Nd} (bX : l ≠ []) (h0 : jo l = l.length) (h : ∀ n x, l[n]? = some x -> fO l n x = true) : zL l := by
 have tn : sO l := by
  refine ⟨bX, h0, fun i x hx => ?_⟩
  have := h i x hx
  unfold fO at this
  split at this
  · cases this
  · simp only [bF, dp] at this
    exact this.1
 refine ⟨tn, fun i x hx => ?_⟩
 have hq := h i x hx
 have MD := tn.2.2 i x hx
 unfold fO at hq
 split at hq
 · cases hq
 · simp only [bF, dp] at hq
   have hb := hq.2.2.2.1
   rw [zg] at hb
   have e : ((i : Int) + x.size) = ((i + x.size.toNat : Nat) : Int) := by omega
   rw [e] at hb
   rw [<- zh tn (by omega)]
   exact_mod_cast hb
theorem zr {l : List Nd} {x0 : Nd} (h0 : l[0]? = some x0) : (x0.kind = 1 /\ x0.size = l.length /\ ∀ n x, l[n]? = some x -> fO l n x = true) ↔ ∃ t : Tre, l = t.flat /\ t.kind = 1 /\ t.ok = true := by
 constructor
 · rintro ⟨h1, h2, h3⟩
   have bX : l ≠ [] := by intro e; subst e; simp at h0
   have oM : jo l = l.length := by
    cases l with
    | nil => exact absurd rfl bX
    | cons y r => simp at h0; subst h0; exact h2
   obtain ⟨t, rfl⟩ := (zx l).1 (u3 bX oM h3)
   obtain ⟨y, hy, hk, _⟩ := (dT.whole t).mK
   rw [h0] at hy; cases hy
   refine ⟨t, rfl, by rw [<- hk, h1], ?_⟩
   have := BE (l := t.flat) _ [t] 0 (cA _) ⟨[], by simp⟩ (fun j s x _ hj hs hx => by rw [<- zm hs hx]; exact h3 j x hx)
   simpa using this
 · rintro ⟨t, rfl, hk, ho⟩
   obtain ⟨y, hy, YF, YG, _⟩ := (dT.whole t).mK
   rw [h0] at hy; cases hy
   refine ⟨by rw [YF, hk], YG, fun n x hx => ?_⟩
   obtain ⟨⟨s, _, hs, _⟩, _⟩ := place t (cT.1 hx).1
   rw [zm hs hx]
   exact KY (RT ho hs) hs hx
theorem rn {l : List Nd} (h9 : ¬ 900 < l.length) (h : ¬ ∃ t : Tre, l = t.flat /\ t.kind = 1 /\ t.ok = true) : ia l = 4 := by
 unfold ia
 rw [if_neg h9]
 cases ht : yB l with
 | none => rfl
 | some t =>
   have := JB ht
   subst this
   show At t = 4
   unfold At
   rw [if_pos]
   by_cases hk : t.kind = 1
   · right
     cases ho : t.ok with
     | false => rfl
     | true => exact absurd ⟨t, rfl, hk, ho⟩ h
   · exact .inl hk
theorem C7 {c : UInt8} (h : dG c = true) : ml c = true /\ c.toNat ≠ 32 /\ c.toNat ≠ 10 /\ c.toNat ≠ 126 := by
 simp only [dG, fA, nh, EK, gM, dp] at h
 simp only [ml, dp]
 omega
theorem rJ {s : aW} (h : kK s = true) : mv s = .ok [⟨1, s, 0⟩] := by
 have hlen := CO h
 unfold kK at h
 rw [dp] at h
 rcases ua h with ⟨_, _, _, ⟨c, r, e, hc⟩, bw⟩ | h' | h' | h'
 · have Kt : pT s = (0, 0) := by
    unfold pT
    rw [if_neg (by omega)]
    have : s.findIdx? (fun c => !ml c) = none := by
     rw [List.findIdx?_eq_none_iff]
     intro x hx
     rw [dU] at bw
     have := C7 (bw x hx)
     simp [this.1]
    rw [this]
   unfold mv
   rw [Kt]
   simp only [ne_eq, not_true, if_false]
   obtain ⟨n, hn⟩ : ∃ n, s.length = n + 1 := ⟨r.length, by rw [e]; simp⟩
   rw [hn, jH]
   subst e
   have Zv := C7 (show dG c = true by rw [dU] at bw; exact bw c (by simp))
   simp only [dC]
   rw [if_neg (by omega), if_neg (by omega), h]
   simp only [ne_eq, not_true, if_false, tQ, show ¬ ((0 : Nat) = 900) by omega, ck, iN]
   have U1 : r.length = n := by simpa using hn
   cases n with
   | zero => simp only [jH]
   | succ n =>
     rw [jH, List.drop_of_length_le (by simp)]
 · omega
 · omega
 · omega
where
 CO {s : aW} (h : kK s = true) : s.length <= 12 := by
  unfold kK at h
  rw [dp] at h
  rcases ua h with h | h | h | h
  · exact h.2.2.1
  · omega
  · omega
  · omega
theorem Fh (s : aW) (hs : s.length <= 3000) : Pure K 208 [.str s] (.bool (kK s)) := by
 intro U R hR
 refine IZ ?_
 unfold IY
 refine (C1 s hs).go ?_
 cases hl : mv s with
 | bad p e =>
   have hn : kK s = false := by
    cases h : kK s with
    | false => rfl
    | true => rw [rJ h] at hl; cases hl
   rw [hn] at hR
   have he : e ≠ 0 := by
    unfold mv at hl
    split at hl
    split at hl
    · rename_i he; cases hl; exact he
    · exact pA _ _ _ _ hl
   simp only [ub, bP, List.drop, bD, bf, ag, he, db, aT, show (false == true) = false from rfl, aI, bS, aG, bl, if_false]
   exact aj.mk hR
 | ok L =>
   simp only [ub, bP, List.drop, bD, bf, ag, cV, aT, fC]
   have YB := LK L
   have hlen : bZ (some false) (sf L) = .val (.int .i64 L.length) := YB.len
   refine jd ?_
   rw [hlen]
   refine jd ?_
   rw [bf]
   refine jd ?_
   simp only [aG, if_true, ag]
   by_cases h1 : L.length = 1
   · match L, h1 with
     | [t], _ =>
       have pr : ox t := (N2 hl).1 t (by simp)
       have tok : ∀ (o : Nat) (c : AV) (kq : AV -> Prop), (lk t)[o]? = some c -> kq c -> ah K (.bool true) (aJ (some (51, 3)) none (sf [t]) (.int .i64 0)) fun a => ah K (.bool true) (af (some o) a) fun b => ah K (.bool true) (ao (some (false, 1)) b U) kq := fun o c kq hc hk => by
        obtain ⟨r', oL⟩ := vy hc []
        refine oX ⟨by simp, ?_⟩
        refine oX ?_
        simp only [Int.toNat_zero, Nat.zero_mul, dC, cJ, aC]
        refine oX ?_
        rw [lj, show fF [t] = lk t ++ [] from rfl, oL, eP]; exact hk
       simp only [mB, tQ, ck, show ((1 : Nat) : Int) = 1 from rfl, cV, aT, fC]
       refine jd (tok 0 (.int .u8 t.k) _ rfl ?_)
       rw [bf]
       refine jd ?_
       simp only [aG, if_true, ag]
       by_cases hk : (t.k : Int) = 1
       · simp only [hk, cV, aT, fC]
         refine jd (tok 1 (.str t.s) _ rfl (jd ?_))
         rw [na]
         refine jd ?_
         simp only [aG, if_true, ag]
         refine aj.eq hR ?_
         rw [AV.bool.injEq, mC, dp]
         constructor
         · intro h
           have := pr.2
           rw [show t.k = 1 by omega] at this
           rw [<- h]; unfold kK; rw [this]; simp
         · intro h
           rw [rJ h] at hl
           cases hl; rfl
       · simp only [hk, db, aT, show (false == true) = false from rfl, aI, bS, aG, bl, if_false, ag]
         refine aj.eq hR ?_
         cases h : kK s with
         | false => rfl
         | true => rw [rJ h] at hl; cases hl; exact absurd rfl hk
   · have AI : ¬ (L.length : Int) = 1 := by omega
     simp only [AI, db, aT, show (false == true) = false from rfl, aI, bS, aG, bl, if_false, ag]
     refine aj.eq hR ?_
     cases h : kK s with
     | false => rfl
     | true => rw [rJ h] at hl; cases hl; exact absurd rfl h1
where
 LK (l : List Tk) : eS (sf l) l.length (fF l) := by
  unfold sf
  split
  · rename_i h; subst h; exact .inl ⟨rfl, rfl, rfl⟩
  · exact .inr ⟨_, rfl⟩
 pA : ∀ (f : Nat) (s : aW) (p : Nat) (l : List Tk) {q : Nat} {e : Int}, jH f s p l = .bad q e -> e ≠ 0
  | 0, s, p, l, q, e, h => by simp [jH] at h
  | f + 1, s, p, l, q, e, h => by
    simp only [jH] at h
    split at h
    · cases h
    · split at h
      · exact pA f s _ l h
      · split at h
        · exact pA f s _ l h
        · split at h
          · rename_i he; cases h; exact he
          · split at h
            · cases h; omega
            · exact pA f s _ _ h
end Go.Rip
