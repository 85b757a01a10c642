/- Lemmas for the proof: no conditions. -/
import Derived.Test.YtnfpmiiopiinbaaGreatDoorRipZz
import Derived.Test.YtnfpmiiopiinbaaGreatDoorRipW
import Derived.Test.YtnfpmiiopiinbaaGreatDoorRipH
import Derived.Test.YtnfpmiiopiinbaaGreatDoorRipG
import Derived.Test.YtnfpmiiopiinbaaGreatDoorRipP
set_option linter.unusedVariables false
set_option linter.unusedSimpArgs false
set_option linter.loopingSimpArgs false
namespace Go.Rip
open Go.Proofs Go.RowKit
theorem Hv (k : Int) : Pure K 179 [.int .u8 k] (.bool (oE k)) := by
 intro U R hR
 refine Lz ?_
 unfold Ly
 rw [dR, ai]
 refine yA (fun _ => fw ..) (aj.eq hR ?_)
 simp only [oE, AV.bool.injEq]; grind
theorem za (k : Int) : Pure K 206 [.int .u8 k] (.bool (jQ k)) := by
 intro U R hR
 refine LJ ?_
 unfold LI
 rw [aW, ai]
 refine rT (fun _ => aW ..) (aj.eq hR ?_)
 simp only [jQ, AV.bool.injEq]; grind
theorem Hz (k : Int) : Pure K 181 [.int .u8 k] (.bool (p8 k)) := by
 intro U R hR
 refine LB ?_
 unfold LA
 refine (za k).go ?_
 refine rT (fun _ => aW ..) (aj.eq hR ?_)
 simp only [jQ, p8, AV.bool.injEq]; grind
theorem zc (k : Int) : Pure K 185 [.int .u8 k] (.bool (fp k)) := by
 intro U R hR
 refine LF ?_
 unfold LC
 rw [dR, ai]
 refine yA (fun _ => fw ..) (aj.eq hR ?_)
 simp only [fp, AV.bool.injEq]; grind
theorem JQ (k : Int) : Pure K 207 [.int .u8 k] (.bool (jP k)) := by
 intro U R hR
 refine LL ?_
 unfold LK
 refine (zc k).go ?_
 refine rT (fun _ => aW ..) ?_
 refine rT (fun _ => aW ..) (aj.eq hR ?_)
 simp only [fp, jP, AV.bool.injEq]; grind
theorem Hw (k c : Int) : Pure K 242 [.int .u8 k, .cj [.int .u8 c]] (.bool (decide (k = c))) := by
 intro U R hR
 refine Mp ?_
 unfold Mo
 rw [mR, bG]
 exact ef (aj.mk hR)
theorem mT (a b n : Int) : Pure K 122 [.int .i64 a, .int .i64 b, .int .i64 n] (.bool (decide (a <= n /\ n <= b))) := by
 intro U R hR
 refine Ki ?_
 unfold Kh
 refine qT ?_
 by_cases h : a <= n
 · simp only [h, bS, aI, dw]
   refine dc (dc ?_)
   rw [fw]
   refine dc ?_
   simp only [az, if_true, ai]
   refine aj.eq hR ?_
   simp [h]
 · simp only [h, cm, aI, show (false == true) = false from rfl, aB, a8, az, bq, if_false, ai]
   refine aj.eq hR ?_
   simp [h]
def uY : qf -> AV
 | .item => .func (.func 179) [] []
 | .type => .func (.func 181) [] []
 | .base => .func (.func 206) [] []
 | .term => .func (.func 185) [] []
 | .arg => .func (.func 207) [] []
 | .kind c => .func (.func 242) [] [.cj [.int .u8 c]]
theorem T1 {c : qf} {k : Int} {U : St} {K' : AV -> St -> Prop} {Kp : AV -> St -> Prop} (h : K' (.bool (c.is k)) U) : (fY K.P (uY c) [.int .u8 k]).wp K U K' Kp := by
 cases c with
 | item => simp only [uY, fY, show dB K.P 179 = true by kernel_rfl, if_true, iL, jA, jU]; exact (Hv k).go h
 | type => simp only [uY, fY, show dB K.P 181 = true by kernel_rfl, if_true, iL, jA, jU]; exact (Hz k).go h
 | base => simp only [uY, fY, show dB K.P 206 = true by kernel_rfl, if_true, iL, jA, jU]; exact (za k).go h
 | term => simp only [uY, fY, show dB K.P 185 = true by kernel_rfl, if_true, iL, jA, jU]; exact (zc k).go h
 | arg => simp only [uY, fY, show dB K.P 207 = true by kernel_rfl, if_true, iL, jA, jU]; exact (JQ k).go h
 | kind c => simp only [uY, fY, show dB K.P 242 = true by kernel_rfl, if_true, iL, jA, jV]; exact (Hw k c).go h
def jW (s : mh) : List AV := [uY s.c, .int .i64 (s.least : Nat), .int .i64 (s.my : Nat)]
def lu (l : List mh) : List AV := l.flatMap jW
def jn (l : List mh) : AV := if l = [] then .al else .vec l.length .full (lu l)
def kZ (f : Ax) : List AV := [.bool f.text, .bool f.n, .bool f.m, jn f.kids]
theorem DX (L : List mh) : (lu L).length = 3 * L.length := by
 induction L with
 | nil => rfl
 | cons t L ih =>
   have : (lu (t :: L)).length = 3 + (lu L).length := by simp [lu, jW]; omega
   rw [this, ih, jy]; omega
theorem zk (L : List mh) (i : Nat) : (lu L).drop (i * 3) = lu (L.drop i) := by
 induction L generalizing i with
 | nil => simp [lu]
 | cons t L ih =>
   cases i with
   | zero => simp
   | succ i =>
     rw [Nat.add_mul, show i * 3 + 1 * 3 = 3 + i * 3 by omega, <- List.drop_drop, List.drop_succ_cons, <- ih]
     rfl
theorem OY {L : List mh} {i : Nat} {t : mh} (h : L[i]? = some t) : ∃ r, (lu L).drop (i * 3) = jW t ++ r := by
 rw [zk, fN (dm.1 h).1]
 refine ⟨lu (L.drop (i + 1)), ?_⟩
 have := (dm.1 h).2
 simp [lu, this]
theorem OZ (l : List mh) : eB (jn l) l.length (lu l) := by
 unfold jn
 split
 · rename_i h; subst h; exact .inl ⟨rfl, rfl, rfl⟩
 · exact .inr ⟨_, rfl⟩
theorem Rb {v : AV} {ss : List mh} {s : mh} {i : Nat} {U : St} {K' : AV -> St -> Prop} {Kp : AV -> St -> Prop} (hv : eB v ss.length (lu ss)) (hs : ss[i]? = some s) (hk : K' (.agg (jW s)) U) :
 (aG (some (200, 3)) none v (.int .i64 (i : Nat))).wp K U (fun p U => (aq (some (true, 3)) p U).wp K U K' Kp) Kp := by
 have aJ := (dm.1 hs).1
 obtain ⟨c, rfl, kJ⟩ := hv.at (sz := 3) (e := 200) aJ
 obtain ⟨r, hr⟩ := OY hs
 rw [kJ, hr]
 refine ⟨by omega, ?_⟩
 rw [ai, Au]
 refine ⟨by simp [jW], ?_⟩
 have : (jW s ++ r).take 3 = jW s := by simp [jW]
 rw [this]; exact hk
theorem Bo {k : Int} {z : AV} : ∀ (ks : List Int) (vs : List AV), (∀ j ∈ ks, j ≠ k) -> kn .i (.int .u8 k) z true (ks.map (.int .u8)) vs = .val (.aQ [z, .bool false])
 | [], vs, _ => by cases vs <;> rfl
 | j :: ks, [], _ => rfl
 | j :: ks, v :: vs, h => by
   have hj : ¬ k = j := fun e => h j (by simp) e.symm
   have : fz .i (.int .u8 k) (.int .u8 j) = some false := by simp [fz, hj]
   simp only [dy, kn, this, bq, if_false]
   exact Bo ks vs fun x hx => h x (by simp [hx])
def El : AV := .agg [AV.bool false, AV.bool false, AV.bool false, AV.al]
def JL (n : Nat) : Bool := match mI with
 | .eI ks vs => (match kn .i (.int .u8 n) El true ks vs with
   | .val v => gu v (match et n with | some f => .aQ [.agg (kZ f), .bool true] | none => .aQ [El, .bool false])
   | _ => false)
 | _ => false
theorem Hu : ∀ n : Fin 38, JL n.val = true := by decide +kernel
end Go.Rip
namespace Go.Rip
open Go.Proofs Go.RowKit
theorem EN (ks : List Int) : (eC ks).length = ks.length := by simp [eC]
theorem XF {U : St} {v : AV} {ks : List Int} {i e : Nat} {k : Int} {kq : AV -> AV -> Prop} (hv : eB v ks.length (eC ks)) (hk : ks[i]? = some k) (h : ∀ L, kq (.cj L) (.int .u8 k)) :
 ad K (.bool true) (aG (some (e, 1)) none v (.int .i64 (i : Nat))) fun p => ad K (.bool true) (aq (some (false, 1)) p U) (kq p) := by
 have aJ := (dm.1 hk).1
 obtain ⟨c, rfl, kJ⟩ := hv.at (sz := 1) (e := e) aJ
 obtain ⟨r, hr⟩ := zZ hk
 rw [kJ, Nat.mul_one, hr]
 exact hC ⟨by omega, hC (h _)⟩
theorem Vm {v : AV} {ks : List Int} {i : Nat} {e : Nat} {U : St} {K' : AV -> St -> Prop} {Kp : AV -> St -> Prop} (hv : eB v ks.length (eC ks)) (hi : i <= ks.length) (hk : ∀ v', eB v' (ks.drop i).length (eC (ks.drop i)) -> K' v' U) :
 (eE false (some (e, 1)) v (some (.int .i64 (i : Nat))) none).wp K U K' Kp := by
 rcases hv with ⟨h0, h1, rfl⟩ | ⟨c, rfl⟩
 · have gL : ks = [] := qL.1 h0
   subst gL
   have AS : i = 0 := by simpa using hi
   subst AS
   simp only [eE, dq, wp_cond, ai]
   refine ⟨by simp, hk _ (.inl ⟨rfl, rfl, rfl⟩)⟩
 · rw [vS, ij, gB]
   refine ⟨by omega, ?_⟩
   refine hk _ (.inr ⟨pM c none, ?_⟩)
   have : ks.length - i = (ks.drop i).length := by rw [List.length_drop]
   simp only [ej, Nat.mul_one, this]
   rw [pt (by rw [EN]; exact df _)]
   congr 1
   simp [eC, List.map_drop]
theorem Sb {ss : List mh} {i : Nat} {U : St} {K' : AV -> St -> Prop} {Kp : AV -> St -> Prop} (hi : i < ss.length) (hk : ∀ v', eB v' (ss.drop (i + 1)).length (lu (ss.drop (i + 1))) -> K' v' U) :
 (eE false (some (200, 3)) (jn ss) (some (.int .i64 ((i : Nat) + 1))) none).wp K U K' Kp := by
 have bQ : ss ≠ [] := by intro e; subst e; simp at hi
 unfold jn
 rw [if_neg bQ, vS, ij, gB]
 refine ⟨by omega, ?_⟩
 refine hk _ (.inr ⟨pM .full none, ?_⟩)
 have : (ss.length : Int).toNat - ((i : Int) + 1).toNat = (ss.drop (i + 1)).length := by rw [List.length_drop]; omega
 rw [this]
 congr 1
 rw [ej, pt (by rw [DX]; omega), show ((i : Int) + 1).toNat = i + 1 by omega, zk]
def ru (ks : List Int) (s : mh) (rest : Nat) : Nat := ((ks.take (min (ks.length - rest) s.my)).takeWhile s.c.is).length
theorem It (ks : List Int) (s : mh) (ss : List mh) : dp ks (s :: ss) = if ru ks s (ss.map (·.least)).sum < s.least then false else dp (ks.drop (ru ks s (ss.map (·.least)).sum)) ss := by
 rw [dp]; rfl
theorem Aq {p : Int -> Bool} : ∀ {l : List Int} {i : Nat}, (∀ j (h : j < l.length), j < i -> p l[j] = true) -> i <= l.length -> (i = l.length \/ ∃ h : i < l.length, p l[i] = false) -> (l.takeWhile p).length = i
 | [], i, _, hi, _ => by simp at hi; simp [hi]
 | a :: l, 0, _, _, he => by
   rcases he with he | ⟨h, he⟩
   · simp at he
   · rw [nj]; simp at he; simp [he]
 | a :: l, i + 1, bw, hi, he => by
   have ha : p a = true := bw 0 (by simp) (by omega)
   rw [nj, if_pos ha, jy]
   congr 1
   refine Aq (fun j h hj => ?_) (by simpa using hi) ?_
   · have := bw (j + 1) (by simp; omega) (by omega)
     simpa using this
   · rcases he with he | ⟨h, he⟩
     · left; simpa using he
     · right; exact ⟨by simpa using h, by simpa using he⟩
theorem Uf {U : St} {R : cB -> St -> Prop} {v : AV} {ks : List Int} {ss : List mh} (hv : eB v ks.length (eC ks)) (hl : ks.length <= 100000) (pD : ss.length <= 100) (kK : ∀ s ∈ ss, s.least <= 1000 /\ s.my <= 1000)
 (h : ∀ ae, cJ U ae -> R (.ret (.bool (dp ks ss))) ae) : af K 209 [v, jn ss] U R := by
 refine LP ?_
 unfold LO
 have Zf := OZ ss
 have hlen : bB (some false) (jn ss) = .val (.int .i64 ss.length) := Zf.len
 rw [hlen, ai]
 refine ⟨fun m v0 v1 v11 v12 bF ae => ∃ (i : Nat) (ks' : List Int), m = ss.length - i /\ v1 = jn ss /\ v11 = jn ss /\ v12 = .int .i64 ss.length /\ bF = .int .i64 (i : Nat) /\ i <= ss.length /\ eB v0 ks'.length (eC ks') /\ ks'.length <= ks.length /\ dp ks' (ss.drop i) = dp ks ss /\ cJ U ae,
  ⟨_, 0, ks, rfl, rfl, rfl, rfl, rfl, by omega, hv, df _, rfl, cJ.refl _⟩, ?_⟩
 rintro m v0 v1 v11 v12 bF bJ ⟨i, ks', rfl, rfl, rfl, rfl, rfl, hi, P3, sG, mr, e1⟩
 refine tb (fun aJ => ?_) fun fZ => ?_
 · have aJ : i < ss.length := by omega
   obtain ⟨s, hs⟩ : ∃ s, ss[i]? = some s := ⟨ss[i], by simp [aJ]⟩
   have FL := kK s (fi hs)
   have XO : ss.drop i = s :: ss.drop (i + 1) := by
    rw [fN aJ]
    have := (dm.1 hs).2
    rw [this]
   refine Rb Zf hs ?_
   rw [cx]
   intro b6 ou
   have m6 : (bJ.new b6 (.box [AV.cZ, AV.int .i64 0, AV.int .i64 0])).box b6 = some [AV.cZ, AV.int .i64 0, AV.int .i64 0] := aL
   have e2 := e1.new ou (x := .box [AV.cZ, AV.int .i64 0, AV.int .i64 0])
   have f6 := e1.fresh ou.1
   generalize bJ.new b6 (.box [AV.cZ, AV.int .i64 0, AV.int .i64 0]) = bX at *
   rw [cA m6]
   refine ⟨⟨rfl, rfl, by simp⟩, ?_⟩
   have g6 : (bX.set b6 (.box (aA [AV.cZ, AV.int .i64 0, AV.int .i64 0] 0 (ax (.agg (jW s)))))).box b6 = some (jW s) := by rw [aS]; rfl
   have e3 := e2.set f6 (x := .box (aA [AV.cZ, AV.int .i64 0, AV.int .i64 0] 0 (ax (.agg (jW s)))))
   generalize bX.set b6 (.box (aA [AV.cZ, AV.int .i64 0, AV.int .i64 0] 0 (ax (.agg (jW s))))) = cE at *
   rw [cq]
   refine ⟨aZ (by omega) (by omega), ?_⟩
   refine Sb aJ fun v21 YF => ?_
   have UN : bB (some false) v21 = .val (.int .i64 (ss.drop (i + 1)).length) := YF.len
   rw [UN, ai]
   generalize G0 : ss.drop (i + 1) = rest at *
   have hrl : rest.length <= 100 := by rw [<- G0, List.length_drop]; omega
   have Zd : ∀ s ∈ rest, s.least <= 1000 := fun s hs => (kK s (by rw [<- G0] at hs; exact List.mem_of_mem_drop hs)).1
   have U8 : ∀ n, ((rest.take n).map (·.least)).sum <= 1000 * n := by
    have : ∀ (l : List mh) (n : Nat), (∀ s ∈ l, s.least <= 1000) -> ((l.take n).map (·.least)).sum <= 1000 * n := by
     intro l
     induction l with
     | nil => intro n _; simp
     | cons a l ih =>
       intro n hm
       cases n with
       | zero => simp
       | succ n =>
         have := ih n fun s hs => hm s (by simp [hs])
         have := hm a (by simp)
         simp only [List.take_succ_cons, dy, List.sum_cons]; omega
    exact fun n => this rest n Zd
   refine ⟨fun m w0 w1 w6 w7 MS MT MU ZO ZP ZQ ae => ∃ j : Nat, m = rest.length - j /\ w0 = v0 /\ w1 = jn ss /\ w6 = .box b6 0 /\ w7 = .int .i64 (((rest.take j).map (·.least)).sum : Nat) /\ MS = jn ss /\ MT = .int .i64 ss.length /\ MU = .int .i64 (i : Nat) /\ ZO = v21 /\ ZP = .int .i64 rest.length /\ ZQ = .int .i64 (j : Nat) /\ j <= rest.length /\ ae.box b6 = some (jW s) /\ cJ U ae,
    ⟨_, 0, rfl, rfl, rfl, rfl, rfl, rfl, rfl, rfl, rfl, rfl, rfl, by omega, g6, e3⟩, ?_⟩
   clear e2 e3 g6 m6 ou
   rintro m w0 w1 w6 w7 MS MT MU ZO ZP ZQ cW ⟨j, rfl, rfl, rfl, rfl, rfl, rfl, rfl, rfl, rfl, rfl, rfl, hj, g6, e4⟩
   refine tb (fun tB => ?_) fun aab => ?_
   · have tB : j < rest.length := by omega
     obtain ⟨s2, A0⟩ : ∃ s2, rest[j]? = some s2 := ⟨rest[j], by simp [tB]⟩
     refine Rb YF A0 ?_
     rw [cx]
     intro b9 CO
     have m9 : (cW.new b9 (.box [AV.cZ, AV.int .i64 0, AV.int .i64 0])).box b9 = some [AV.cZ, AV.int .i64 0, AV.int .i64 0] := aL
     have e5 := e4.new CO (x := .box [AV.cZ, AV.int .i64 0, AV.int .i64 0])
     have f9 := e4.fresh CO.1
     have n9 := CO.bZ g6
     have YC := (bm CO (x := .box [AV.cZ, AV.int .i64 0, AV.int .i64 0])).bo g6
     generalize cW.new b9 (.box [AV.cZ, AV.int .i64 0, AV.int .i64 0]) = dV at *
     rw [cA m9]
     refine ⟨⟨rfl, rfl, by simp⟩, ?_⟩
     have g9 : (dV.set b9 (.box (aA [AV.cZ, AV.int .i64 0, AV.int .i64 0] 0 (ax (.agg (jW s2)))))).box b9 = some (jW s2) := by rw [aS]; rfl
     have ZZ : (dV.set b9 (.box (aA [AV.cZ, AV.int .i64 0, AV.int .i64 0] 0 (ax (.agg (jW s2)))))).box b6 = some (jW s) := by rw [aN n9]; exact YC
     have e6 := e5.set f9 (x := .box (aA [AV.cZ, AV.int .i64 0, AV.int .i64 0] 0 (ax (.agg (jW s2)))))
     generalize dV.set b9 (.box (aA [AV.cZ, AV.int .i64 0, AV.int .i64 0] 0 (ax (.agg (jW s2))))) = ot at *
     simp only [aU, ai, ck]
     refine eG g9 rfl ?_
     have dC := U8 j
     have gK := Zd s2 (fi A0)
     rw [cq]
     refine ⟨aZ (by omega) (by omega), ?_⟩
     rw [cq]
     refine ⟨aZ (by omega) (by omega), rest.length - (j + 1), by omega, j + 1, rfl, rfl, rfl, rfl, ?_, rfl, rfl, rfl, rfl, rfl, by simp, tB, ZZ, e6⟩
     have : rest.take (j + 1) = rest.take j ++ [s2] := by rw [od, A0]; rfl
     rw [this]; simp
   · have hj : j = rest.length := by omega
     subst hj
     rw [pv]
     have dC := U8 rest.length
     rw [pv] at dC
     generalize aaq : (rest.map (·.least)).sum = sm at *
     have XN : dp ks' (s :: rest) = if ru ks' s sm < s.least then false else dp (ks'.drop (ru ks' s sm)) rest := by rw [It, aaq]
     rw [XO, XN] at mr
     refine ⟨fun m u0 w1 w6 w7 ZN MS MT MU ae => ∃ q : Nat, m = ks'.length - q /\ u0 = w0 /\ w1 = jn ss /\ w6 = .box b6 0 /\ w7 = .int .i64 (sm : Nat) /\ ZN = .int .i64 (q : Nat) /\ MS = jn ss /\ MT = .int .i64 ss.length /\ MU = .int .i64 (i : Nat) /\ q <= min (ks'.length - sm) s.my /\ (∀ (p : Nat) (hp : p < ks'.length), p < q -> s.c.is ks'[p] = true) /\ ae.box b6 = some (jW s) /\ cJ U ae,
      ⟨_, 0, rfl, rfl, rfl, rfl, rfl, rfl, rfl, rfl, rfl, by omega, fun p hp h => by omega, g6, e4⟩, ?_⟩
     clear g6 e4
     rintro m u0 w1 w6 w7 ZN MS MT MU dV ⟨q, rfl, rfl, rfl, rfl, rfl, rfl, rfl, rfl, rfl, hq, bw, g6, e5⟩
     intro jj xd
     have GZ : bB (some false) u0 = .val (.int .i64 ks'.length) := P3.len
     have stop : ru ks' s sm = q -> jj u0 (jn ss) (.box b6 0) (.int .i64 (sm : Nat)) (.int .i64 (q : Nat)) (jn ss) (.int .i64 ss.length) (.int .i64 (i : Nat)) (.bool false) dV := fun hmq => by
      refine xd _ _ _ _ _ _ _ _ _ _ ?_
      refine du ?_
      simp only [aU, ai, ck]
      refine eG g6 rfl ?_
      rw [hmq] at mr
      refine tb (fun hml => ?_) fun hml => ?_
      · rw [if_pos (by omega)] at mr
        refine aj.mk ?_
        rw [mr]; exact h _ e5
      · rw [if_neg (by omega)] at mr
        refine Vm P3 (by omega) fun rI h61 => ?_
        rw [cq]
        refine ⟨aZ (by omega) (by omega), ss.length - (i + 1), by omega, i + 1, ks'.drop q, rfl, rfl, rfl, rfl, by simp, aJ, h61, by simp; omega, ?_, e5⟩
        rw [G0]; exact mr
     have go : q < min (ks'.length - sm) s.my -> (∀ k, ks'[q]? = some k -> s.c.is k = true) -> jj u0 (jn ss) (.box b6 0) (.int .i64 (sm : Nat)) (.int .i64 (q : Nat)) (jn ss) (.int .i64 ss.length) (.int .i64 (i : Nat)) (.bool true) dV := fun hql hqs => by
      refine xd _ _ _ _ _ _ _ _ _ _ ?_
      refine cG ?_
      rw [cq]
      refine ⟨aZ (by omega) (by omega), ks'.length - (q + 1), by omega, q + 1, rfl, rfl, rfl, rfl, rfl, by simp, rfl, rfl, rfl, by omega, fun p hp PY => ?_, g6, e5⟩
      rcases eD p q with aJ | fZ
      · exact bw p hp aJ
      · have : p = q := by omega
        subst this; exact hqs _ (by simp [hp])
     have my : q = min (ks'.length - sm) s.my -> ru ks' s sm = q := fun C3 => by
      unfold ru
      rw [<- C3]
      refine Aq (fun p hp PY => ?_) (by simp; omega) (.inl (by simp; omega))
      have := bw p (by simp at hp; omega) PY
      simpa using this
     simp only [GZ, aw, fx, er, gG]
     refine ⟨aZ (by omega) (by omega), ?_⟩
     rw [bj, aw]
     by_cases h1 : (q : Int) < (ks'.length : Int) - (sm : Nat)
     · simp only [h1, bS, aI, dw]
       refine dc (Ui (CI g6 rfl ?_))
       rw [bj]
       refine dc ?_
       simp only [az, if_true, aw]
       by_cases h2 : (q : Int) < (s.my : Nat)
       · have hqk : q < ks'.length := by omega
         have hx : ks'[q]? = some ks'[q] := by simp [hqk]
         simp only [h2, bS, aI, dw]
         refine Ui (CI g6 rfl (dc (dc (XF P3 hx fun L => ?_))))
         refine cG ?_
         refine T1 ⟨fun b hb => rfl, ?_⟩
         simp only [az, if_true, aw]
         cases hc : s.c.is ks'[q] with
         | true => exact go (by omega) fun k hk => by rw [hx] at hk; cases hk; exact hc
         | false =>
           refine stop ?_
           unfold ru
           refine Aq (fun p hp PY => ?_) (by simp; omega) (.inr ⟨by simp; omega, by simpa using hc⟩)
           have := bw p (by simp at hp; omega) PY
           simpa using this
       · simp only [h2, cm, aI, show (false == true) = false from rfl, aB, a8, az, bq, if_false, aw]
         exact du (stop (my (by omega)))
     · simp only [h1, cm, aI, show (false == true) = false from rfl, aB, a8, az, bq, if_false, aw]
       exact du (stop (my (by omega)))
 · have hi : i = ss.length := by omega
   subst hi
   rw [List.drop_length] at mr
   have GZ : bB (some false) v0 = .val (.int .i64 ks'.length) := P3.len
   rw [GZ, ai]
   refine ef (aj.eq (h _ e1) ?_)
   rw [<- mr, dp, AV.bool.injEq, lL, List.isEmpty_iff, cP]
   constructor
   · intro h; exact qL.1 (by omega)
   · rintro rfl; rfl
end Go.Rip
namespace Go.Rip
open Go.Proofs Go.RowKit
def Dk (l : List Nd) (en : Int) : Nat -> Nat -> Nat
 | 0, p => p
 | f + 1, p => match l[p]? with
   | some x => if (p : Int) < en /\ 0 < x.size then Dk l en f (p + x.size.toNat) else p
   | none => p
def behind (l : List Nd) (p : Nat) (ks : List Nat) : Nat := ks.foldl (fun _ k => k + eT l k) p
theorem wQ (l : List Nd) (p : Nat) (ks : List Nat) (k : Nat) : behind l p (ks ++ [k]) = k + eT l k := by simp [behind]
theorem Bh (l : List Nd) (en : Int) : ∀ (f p : Nat), behind l p (fA l en f p) = Dk l en f p
 | 0, p => rfl
 | f + 1, p => by
   simp only [fA, Dk]
   cases hx : l[p]? with
   | none => rfl
   | some x =>
     simp only
     by_cases h : (p : Int) < en /\ 0 < x.size
     · rw [if_pos h, if_pos h, <- Bh l en f]
       have : eT l p = x.size.toNat := by unfold eT; rw [hx]; rfl
       simp only [behind, List.foldl_cons, this]
     · rw [if_neg h, if_neg h]; rfl
theorem Bi {l : List Nd} (hs : uN l) {en : Nat} (PH : en <= l.length) : ∀ (f p : Nat), Dk l en f p = mg l en f p
 | 0, p => rfl
 | f + 1, p => by
   simp only [Dk]
   by_cases hp : p < en
   · have aJ : p < l.length := by omega
     have hx : l[p]? = some l[p] := by simp [aJ]
     have := hs.2.2 p _ hx
     rw [pX hx hp, hx]
     simp only
     rw [if_pos ⟨by omega, by omega⟩]
     exact Bi hs PH f _
   · rw [pY hp]
     split
     · rw [if_neg (fun h => hp (by omega))]
     · rfl
def fS (l : List Nd) (ks : List Nat) : List Int := ks.map fun k => ((l[k]?.map Nd.kind).getD 0)
def gE (l : List Nd) (n : Nat) (x : Nd) : Bool := match et x.kind with
 | none => false
 | some f => decide (1 <= x.size /\ x.size <= (l.length : Int) - n) && (lG x f && ((fA l ((n : Int) + x.size) l.length (n + 1)).all (fun k => decide (1 <= eT l k /\ (k : Int) + eT l k <= n + x.size)) &&
    (decide (((behind l (n + 1) (fA l ((n : Int) + x.size) l.length (n + 1)) : Nat) : Int) = n + x.size) && dp (fS l (fA l ((n : Int) + x.size) l.length (n + 1))) f.kids)))
theorem Bs {l : List Nd} {n : Nat} {s : Tre} {x : Nd} (hs : dW l n s) (hx : l[n]? = some x) : gE l n x = l8 x (s.kids.map Tre.kind) := by
 obtain ⟨y, hy, _, dG, _⟩ := hs.lD
 rw [hx] at hy; cases hy
 have hle := hs.le
 have oD := s.cR
 have hk : fA l ((n : Int) + x.size) l.length (n + 1) = bI (n + 1) s.kids := by rw [dG]; exact xL hs
 have CQ := ki s
 have eW : ∀ (ts : List Tre) (p : Nat), iY l p ts -> (bI p ts).all (fun k => decide (1 <= eT l k /\ (k : Int) + eT l k <= (p : Int) + (Tre.bE ts).length)) = true /\ behind l p (bI p ts) = p + (Tre.bE ts).length /\ fS l (bI p ts) = ts.map Tre.kind := by
  intro ts
  induction ts with
  | nil => intro p _; simp [bI, behind, fS]
  | cons t ts ih =>
    intro p nc
    obtain ⟨z, hz, hzk, sK, _⟩ := nc.head.lD
    have htp := t.cR
    have FJ : eT l p = t.flat.length := by unfold eT; rw [hz]; simp; omega
    obtain ⟨i1, i2, i3⟩ := ih _ nc.tail
    refine ⟨?_, ?_, ?_⟩
    · simp only [bI, List.all_cons, bN, cP, FJ, Tre.c6, fX]
      refine ⟨⟨by omega, by omega⟩, ?_⟩
      rw [dJ] at i1 ⊢
      intro k hk
      have := i1 k hk
      simp only [cP] at this ⊢
      omega
    · simp only [bI, behind, List.foldl_cons, FJ]
      have : behind l (p + t.flat.length) (bI (p + t.flat.length) ts) = p + (Tre.bE (t :: ts)).length := by rw [i2]; simp; omega
      exact this
    · simp only [bI, fS, dy, hz, Option.map_some, Option.getD_some, hzk]
      congr 1
 obtain ⟨h1, h2, h3⟩ := eW s.kids (n + 1) hs.kids
 unfold gE l8 nQ
 cases hf : et x.kind with
 | none => simp
 | some f =>
   simp only
   rw [hk, AK hf, h2, h3]
   have e1 : decide (1 <= x.size /\ x.size <= (l.length : Int) - n) = true := by rw [cP]; omega
   have e2 : (bI (n + 1) s.kids).all (fun k => decide (1 <= eT l k /\ (k : Int) + eT l k <= n + x.size)) = true := by
    rw [dJ] at h1 ⊢
    intro k hk
    have := h1 k hk
    simp only [cP] at this ⊢
    omega
   have e3 : decide (((n + 1 + (Tre.bE s.kids).length : Nat) : Int) = n + x.size) = true := by rw [cP]; omega
   rw [e1, e2, e3]; simp
theorem xo {l : List Nd} (bQ : l ≠ []) (h0 : kD l = l.length) (h : ∀ n x, l[n]? = some x -> gE l n x = true) : ti l := by
 have sI : uN l := by
  refine ⟨bQ, h0, fun i x hx => ?_⟩
  have := h i x hx
  unfold gE at this
  split at this
  · cases this
  · simp only [bN, cP] at this
    exact this.1
 refine ⟨sI, fun i x hx => ?_⟩
 have hq := h i x hx
 have FM := sI.2.2 i x hx
 unfold gE at hq
 split at hq
 · cases hq
 · simp only [bN, cP] at hq
   have hb := hq.2.2.2.1
   rw [Bh] at hb
   have e : ((i : Int) + x.size) = ((i + x.size.toNat : Nat) : Int) := by omega
   rw [e] at hb
   rw [<- Bi sI (by omega)]
   exact_mod_cast hb
theorem By {l : List Nd} {x0 : Nd} (h0 : l[0]? = some x0) : (x0.kind = 1 /\ x0.size = l.length /\ ∀ n x, l[n]? = some x -> gE l n x = true) ↔ ∃ t : Tre, l = t.flat /\ t.kind = 1 /\ t.ok = true := by
 constructor
 · rintro ⟨h1, h2, h3⟩
   have bQ : l ≠ [] := by intro e; subst e; simp at h0
   have ri : kD l = l.length := by
    cases l with
    | nil => exact absurd rfl bQ
    | cons y r => simp at h0; subst h0; exact h2
   obtain ⟨t, rfl⟩ := (rF l).1 (xo bQ ri h3)
   obtain ⟨y, hy, hk, _⟩ := (dW.whole t).lD
   rw [h0] at hy; cases hy
   refine ⟨t, rfl, by rw [<- hk, h1], ?_⟩
   have := y9 (l := t.flat) _ [t] 0 (df _) ⟨[], by simp⟩ (fun j s x _ hj hs hx => by rw [<- Bs hs hx]; exact h3 j x hx)
   simpa using this
 · rintro ⟨t, rfl, hk, ho⟩
   obtain ⟨y, hy, Vg, hys, _⟩ := (dW.whole t).lD
   rw [h0] at hy; cases hy
   refine ⟨by rw [Vg, hk], hys, fun n x hx => ?_⟩
   obtain ⟨⟨s, _, hs, _⟩, _⟩ := place t (dm.1 hx).1
   rw [Bs hs hx]
   exact xR (D3 ho hs) hs hx
theorem tn {l : List Nd} (h9 : ¬ 900 < l.length) (h : ¬ ∃ t : Tre, l = t.flat /\ t.kind = 1 /\ t.ok = true) : ey l = 4 := by
 unfold ey
 rw [if_neg h9]
 cases ht : vV l with
 | none => rfl
 | some t =>
   have := MM ht
   subst this
   show qk t = 4
   unfold qk
   rw [if_pos]
   by_cases hk : t.kind = 1
   · right
     cases ho : t.ok with
     | false => rfl
     | true => exact absurd ⟨t, rfl, hk, ho⟩ h
   · exact .inl hk
theorem Fk {c : UInt8} (h : cO c = true) : nW c = true /\ c.toNat ≠ 32 /\ c.toNat ≠ 10 /\ c.toNat ≠ 126 := by
 simp only [cO, dN, iN, wq, ja, cP] at h
 simp only [nW, cP]
 omega
theorem tP {s : bf} (h : iC s = true) : nZ s = .ok [⟨1, s, 0⟩] := by
 have hlen := EU h
 unfold iC at h
 rw [cP] at h
 rcases vW h with ⟨_, _, _, ⟨c, r, e, hc⟩, bw⟩ | h' | h' | h'
 · have zS : rQ s = (0, 0) := by
    unfold rQ
    rw [if_neg (by omega)]
    have : s.findIdx? (fun c => !nW c) = none := by
     rw [List.findIdx?_eq_none_iff]
     intro x hx
     rw [dJ] at bw
     have := Fk (bw x hx)
     simp [this.1]
    rw [this]
   unfold nZ
   rw [zS]
   simp only [ne_eq, not_true, if_false]
   obtain ⟨n, hn⟩ : ∃ n, s.length = n + 1 := ⟨r.length, by rw [e]; simp⟩
   rw [hn, lf]
   subst e
   have abo := Fk (show cO c = true by rw [dJ] at bw; exact bw c (by simp))
   simp only [dX]
   rw [if_neg (by omega), if_neg (by omega), h]
   simp only [ne_eq, not_true, if_false, oL, show ¬ ((0 : Nat) = 900) by omega, ck, jA]
   have Y7 : r.length = n := by simpa using hn
   cases n with
   | zero => simp only [lf]
   | succ n =>
     rw [lf, List.drop_of_length_le (by simp)]
 · omega
 · omega
 · omega
where
 EU {s : bf} (h : iC s = true) : s.length <= 12 := by
  unfold iC at h
  rw [cP] at h
  rcases vW h with h | h | h | h
  · exact h.2.2.1
  · omega
  · omega
  · omega
theorem Hy (s : bf) (hs : s.length <= 3000) : Pure K 208 [.str s] (.bool (iC s)) := by
 intro U R hR
 refine LN ?_
 unfold LM
 refine (Fc s hs).go ?_
 cases hl : nZ s with
 | bad p e =>
   have hn : iC s = false := by
    cases h : iC s with
    | false => rfl
    | true => rw [tP h] at hl; cases hl
   rw [hn] at hR
   have he : e ≠ 0 := by
    unfold nZ at hl
    split at hl
    split at hl
    · rename_i he; cases hl; exact he
    · exact rm _ _ _ _ hl
   simp only [vX, bR, List.drop, bG, aW, ai, he, cm, aI, show (false == true) = false from rfl, aB, a8, az, bq, if_false]
   exact aj.mk hR
 | ok L =>
   simp only [vX, bR, List.drop, bG, aW, ai, bS, aI, dw]
   have htl := O6 L
   have hlen : bB (some false) (uo L) = .val (.int .i64 L.length) := htl.len
   refine dc ?_
   rw [hlen]
   refine dc ?_
   rw [aW]
   refine dc ?_
   simp only [az, if_true, ai]
   by_cases h1 : L.length = 1
   · match L, h1 with
     | [t], _ =>
       have sJ : qh t := (RH hl).1 t (by simp)
       have tok : ∀ (o : Nat) (c : AV) (kq : AV -> Prop), (mP t)[o]? = some c -> kq c -> ad K (.bool true) (aG (some (51, 3)) none (uo [t]) (.int .i64 0)) fun a => ad K (.bool true) (ag (some o) a) fun b => ad K (.bool true) (aq (some (false, 1)) b U) kq := fun o c kq hc hk => by
        obtain ⟨r', qy⟩ := xG hc []
        refine hC ⟨by simp, ?_⟩
        refine hC ?_
        simp only [Int.toNat_zero, Nat.zero_mul, dX, dr, aw]
        refine hC ?_
        rw [oa, show gy [t] = mP t ++ [] from rfl, qy, fB]; exact hk
       simp only [jy, oL, ck, show ((1 : Nat) : Int) = 1 from rfl, bS, aI, dw]
       refine dc (tok 0 (.int .u8 t.k) _ rfl ?_)
       rw [aW]
       refine dc ?_
       simp only [az, if_true, ai]
       by_cases hk : (t.k : Int) = 1
       · simp only [hk, bS, aI, dw]
         refine dc (tok 1 (.str t.s) _ rfl (dc ?_))
         rw [gb]
         refine dc ?_
         simp only [az, if_true, ai]
         refine aj.eq hR ?_
         rw [AV.bool.injEq, lL, cP]
         constructor
         · intro h
           have := sJ.2
           rw [show t.k = 1 by omega] at this
           rw [<- h]; unfold iC; rw [this]; simp
         · intro h
           rw [tP h] at hl
           cases hl; rfl
       · simp only [hk, cm, aI, show (false == true) = false from rfl, aB, a8, az, bq, if_false, ai]
         refine aj.eq hR ?_
         cases h : iC s with
         | false => rfl
         | true => rw [tP h] at hl; cases hl; exact absurd rfl hk
   · have CL : ¬ (L.length : Int) = 1 := by omega
     simp only [CL, cm, aI, show (false == true) = false from rfl, aB, a8, az, bq, if_false, ai]
     refine aj.eq hR ?_
     cases h : iC s with
     | false => rfl
     | true => rw [tP h] at hl; cases hl; exact absurd rfl h1
where
 O6 (l : List Tk) : eB (uo l) l.length (gy l) := by
  unfold uo
  split
  · rename_i h; subst h; exact .inl ⟨rfl, rfl, rfl⟩
  · exact .inr ⟨_, rfl⟩
 rm : ∀ (f : Nat) (s : bf) (p : Nat) (l : List Tk) {q : Nat} {e : Int}, lf f s p l = .bad q e -> e ≠ 0
  | 0, s, p, l, q, e, h => by simp [lf] at h
  | f + 1, s, p, l, q, e, h => by
    simp only [lf] at h
    split at h
    · cases h
    · split at h
      · exact rm f s _ l h
      · split at h
        · exact rm f s _ l h
        · split at h
          · rename_i he; cases h; exact he
          · split at h
            · cases h; omega
            · exact rm f s _ _ h
end Go.Rip
