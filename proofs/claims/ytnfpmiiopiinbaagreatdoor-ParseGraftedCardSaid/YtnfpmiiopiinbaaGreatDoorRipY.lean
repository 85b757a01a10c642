/- Lemmas for the proof: no conditions. -/
import Derived.Test.YtnfpmiiopiinbaaGreatDoorRipZz
import Derived.Test.YtnfpmiiopiinbaaGreatDoorRipW
import Derived.Test.YtnfpmiiopiinbaaGreatDoorRipH
import Derived.Test.YtnfpmiiopiinbaaGreatDoorRipG
import Derived.Test.YtnfpmiiopiinbaaGreatDoorRipP
set_option linter.unusedVariables false
set_option linter.unusedSimpArgs false
set_option linter.loopingSimpArgs false
namespace Go.Rip
open Go.Proofs Go.RowKit
theorem Gy (k : Int) : Pure K 179 [.int .u8 k] (.bool (zi k)) := by
 intro U R hR
 refine Kb ?_
 unfold Ka
 rw [gI, ah]
 refine NI (fun _ => jU ..) (al.eq hR ?_)
 simp only [zi, AV.bool.injEq]; grind
theorem yf (k : Int) : Pure K 206 [.int .u8 k] (.bool (vy k)) := by
 intro U R hR
 refine Ki ?_
 unfold Kh
 rw [bl, ah]
 refine FG (fun _ => bl ..) (al.eq hR ?_)
 simp only [vy, AV.bool.injEq]; grind
theorem GC (k : Int) : Pure K 181 [.int .u8 k] (.bool (zj k)) := by
 intro U R hR
 refine Kd ?_
 unfold Kc
 refine (yf k).go ?_
 refine FG (fun _ => bl ..) (al.eq hR ?_)
 simp only [vy, zj, AV.bool.injEq]; grind
theorem yh (k : Int) : Pure K 185 [.int .u8 k] (.bool (vA k)) := by
 intro U R hR
 refine Kg ?_
 unfold Kf
 rw [gI, ah]
 refine NI (fun _ => jU ..) (al.eq hR ?_)
 simp only [vA, AV.bool.injEq]; grind
theorem IY (k : Int) : Pure K 207 [.int .u8 k] (.bool (Cv k)) := by
 intro U R hR
 refine Kk ?_
 unfold Kj
 refine (yh k).go ?_
 refine FG (fun _ => bl ..) ?_
 refine FG (fun _ => bl ..) (al.eq hR ?_)
 simp only [vA, Cv, AV.bool.injEq]; grind
theorem Gz (k c : Int) : Pure K 242 [.int .u8 k, .bY [.int .u8 c]] (.bool (decide (k = c))) := by
 intro U R hR
 refine KD ?_
 unfold KB
 rw [ox, bB]
 exact G9 (al.mk hR)
theorem lQ (a b n : Int) : Pure K 122 [.int .i64 a, .int .i64 b, .int .i64 n] (.bool (decide (a <= n /\ n <= b))) := by
 intro U R hR
 refine Jr ?_
 unfold Jq
 refine Us ?_
 by_cases h : a <= n
 · simp only [h, cX, aW, fK]
   refine jv (jv ?_)
   rw [jU]
   refine jv ?_
   simp only [aJ, if_true, ah]
   refine al.eq hR ?_
   simp [h]
 · simp only [h, dz, aW, show (false == true) = false from rfl, aM, cc, aJ, bu, if_false, ah]
   refine al.eq hR ?_
   simp [h]
def ua : Hi -> AV
 | .item => .func (.func 179) [] []
 | .type => .func (.func 181) [] []
 | .base => .func (.func 206) [] []
 | .term => .func (.func 185) [] []
 | .arg => .func (.func 207) [] []
 | .kind c => .func (.func 242) [] [.bY [.int .u8 c]]
theorem Rz {c : Hi} {k : Int} {U : St} {K' : AV -> St -> Prop} {Kp : AV -> St -> Prop} (h : K' (.bool (c.is k)) U) : (fo K.P (ua c) [.int .u8 k]).wp K U K' Kp := by
 cases c with
 | item => simp only [ua, fo, show dj K.P 179 = true by kernel_rfl, if_true, hP, gH, iI]; exact (Gy k).go h
 | type => simp only [ua, fo, show dj K.P 181 = true by kernel_rfl, if_true, hP, gH, iI]; exact (GC k).go h
 | base => simp only [ua, fo, show dj K.P 206 = true by kernel_rfl, if_true, hP, gH, iI]; exact (yf k).go h
 | term => simp only [ua, fo, show dj K.P 185 = true by kernel_rfl, if_true, hP, gH, iI]; exact (yh k).go h
 | arg => simp only [ua, fo, show dj K.P 207 = true by kernel_rfl, if_true, hP, gH, iI]; exact (IY k).go h
 | kind c => simp only [ua, fo, show dj K.P 242 = true by kernel_rfl, if_true, hP, gH, jh]; exact (Gz k c).go h
def jk (s : nu) : List AV := [ua s.c, .int .i64 (s.least : Nat), .int .i64 (s.nI : Nat)]
def km (l : List nu) : List AV := l.flatMap jk
def iw (l : List nu) : AV := if l = [] then .ag else .vec l.length .full (km l)
def j4 (f : Bj) : List AV := [.bool f.text, .bool f.n, .bool f.m, iw f.kids]
theorem C5 (L : List nu) : (km L).length = 3 * L.length := by
 induction L with
 | nil => rfl
 | cons t L ih =>
   have : (km (t :: L)).length = 3 + (km L).length := by simp [km, jk]; omega
   rw [this, ih, nc]; omega
theorem yp (L : List nu) (i : Nat) : (km L).drop (i * 3) = km (L.drop i) := by
 induction L generalizing i with
 | nil => simp [km]
 | cons t L ih =>
   cases i with
   | zero => simp
   | succ i =>
     rw [Nat.add_mul, show i * 3 + 1 * 3 = 3 + i * 3 by omega, <- List.drop_drop, List.drop_succ_cons, <- ih]
     rfl
theorem MZ {L : List nu} {i : Nat} {t : nu} (h : L[i]? = some t) : ∃ r, (km L).drop (i * 3) = jk t ++ r := by
 rw [yp, gp (dx.1 h).1]
 refine ⟨km (L.drop (i + 1)), ?_⟩
 have := (dx.1 h).2
 simp [km, this]
theorem M0 (l : List nu) : eN (iw l) l.length (km l) := by
 unfold iw
 split
 · rename_i h; subst h; exact .inl ⟨rfl, rfl, rfl⟩
 · exact .inr ⟨_, rfl⟩
theorem Pg {v : AV} {ss : List nu} {s : nu} {i : Nat} {U : St} {K' : AV -> St -> Prop} {Kp : AV -> St -> Prop} (hv : eN v ss.length (km ss)) (hs : ss[i]? = some s) (hk : K' (.agg (jk s)) U) :
 (aP (some (200, 3)) none v (.int .i64 (i : Nat))).wp K U (fun p U => (aq (some (true, 3)) p U).wp K U K' Kp) Kp := by
 have aK := (dx.1 hs).1
 obtain ⟨c, rfl, qd⟩ := hv.at (sz := 3) (e := 200) aK
 obtain ⟨r, hr⟩ := MZ hs
 rw [qd, hr]
 refine ⟨by omega, ?_⟩
 rw [ah, zF]
 refine ⟨by simp [jk], ?_⟩
 have : (jk s ++ r).take 3 = jk s := by simp [jk]
 rw [this]; exact hk
theorem At {k : Int} {z : AV} : ∀ (ks : List Int) (vs : List AV), (∀ j ∈ ks, j ≠ k) -> jz .i (.int .u8 k) z true (ks.map (.int .u8)) vs = .val (.aN [z, .bool false])
 | [], vs, _ => by cases vs <;> rfl
 | j :: ks, [], _ => rfl
 | j :: ks, v :: vs, h => by
   have hj : ¬ k = j := fun e => h j (by simp) e.symm
   have : eR .i (.int .u8 k) (.int .u8 j) = some false := by simp [eR, hj]
   simp only [dN, jz, this, bu, if_false]
   exact At ks vs fun x hx => h x (by simp [hx])
def Dr : AV := .agg [AV.bool false, AV.bool false, AV.bool false, AV.ag]
def IT (n : Nat) : Bool := match lK with
 | .dY ks vs => (match jz .i (.int .u8 n) Dr true ks vs with
   | .val v => fR v (match gw n with | some f => .aN [.agg (j4 f), .bool true] | none => .aN [Dr, .bool false])
   | _ => false)
 | _ => false
theorem Gx : ∀ n : Fin 38, IT n.val = true := by decide +kernel
end Go.Rip
namespace Go.Rip
open Go.Proofs Go.RowKit
theorem DP (ks : List Int) : (j6 ks).length = ks.length := by simp [j6]
theorem Vk {U : St} {v : AV} {ks : List Int} {i e : Nat} {k : Int} {kq : AV -> AV -> Prop} (hv : eN v ks.length (j6 ks)) (hk : ks[i]? = some k) (h : ∀ L, kq (.bY L) (.int .u8 k)) :
 aj K (.bool true) (aP (some (e, 1)) none v (.int .i64 (i : Nat))) fun p => aj K (.bool true) (aq (some (false, 1)) p U) (kq p) := by
 have aK := (dx.1 hk).1
 obtain ⟨c, rfl, qd⟩ := hv.at (sz := 1) (e := e) aK
 obtain ⟨r, hr⟩ := PE hk
 rw [qd, Nat.mul_one, hr]
 exact pJ ⟨by omega, pJ (h _)⟩
theorem SK {v : AV} {ks : List Int} {i : Nat} {e : Nat} {U : St} {K' : AV -> St -> Prop} {Kp : AV -> St -> Prop} (hv : eN v ks.length (j6 ks)) (hi : i <= ks.length) (hk : ∀ v', eN v' (ks.drop i).length (j6 (ks.drop i)) -> K' v' U) :
 (dh false (some (e, 1)) v (some (.int .i64 (i : Nat))) none).wp K U K' Kp := by
 rcases hv with ⟨h0, h1, rfl⟩ | ⟨c, rfl⟩
 · have kD : ks = [] := pK.1 h0
   subst kD
   have BY : i = 0 := by simpa using hi
   subst BY
   simp only [dh, cJ, wp_cond, ah]
   refine ⟨by simp, hk _ (.inl ⟨rfl, rfl, rfl⟩)⟩
 · rw [uY, eJ, eT]
   refine ⟨by omega, ?_⟩
   refine hk _ (.inr ⟨pZ c none, ?_⟩)
   have : ks.length - i = (ks.drop i).length := by rw [List.length_drop]
   simp only [eG, Nat.mul_one, this]
   rw [qR (by rw [DP]; exact cG _)]
   congr 1
   simp [j6, List.map_drop]
theorem Qb {ss : List nu} {i : Nat} {U : St} {K' : AV -> St -> Prop} {Kp : AV -> St -> Prop} (hi : i < ss.length) (hk : ∀ v', eN v' (ss.drop (i + 1)).length (km (ss.drop (i + 1))) -> K' v' U) :
 (dh false (some (200, 3)) (iw ss) (some (.int .i64 ((i : Nat) + 1))) none).wp K U K' Kp := by
 have bW : ss ≠ [] := by intro e; subst e; simp at hi
 unfold iw
 rw [if_neg bW, uY, eJ, eT]
 refine ⟨by omega, ?_⟩
 refine hk _ (.inr ⟨pZ .full none, ?_⟩)
 have : (ss.length : Int).toNat - ((i : Int) + 1).toNat = (ss.drop (i + 1)).length := by rw [List.length_drop]; omega
 rw [this]
 congr 1
 rw [eG, qR (by rw [C5]; omega), show ((i : Int) + 1).toNat = i + 1 by omega, yp]
def qn (ks : List Int) (s : nu) (rest : Nat) : Nat := ((ks.take (min (ks.length - rest) s.nI)).takeWhile s.c.is).length
theorem HJ (ks : List Int) (s : nu) (ss : List nu) : mI ks (s :: ss) = if qn ks s (ss.map (·.least)).sum < s.least then false else mI (ks.drop (qn ks s (ss.map (·.least)).sum)) ss := by
 rw [mI]; rfl
theorem zD {p : Int -> Bool} : ∀ {l : List Int} {i : Nat}, (∀ j (h : j < l.length), j < i -> p l[j] = true) -> i <= l.length -> (i = l.length \/ ∃ h : i < l.length, p l[i] = false) -> (l.takeWhile p).length = i
 | [], i, _, hi, _ => by simp at hi; simp [hi]
 | a :: l, 0, _, _, he => by
   rcases he with he | ⟨h, he⟩
   · simp at he
   · rw [sV]; simp at he; simp [he]
 | a :: l, i + 1, bK, hi, he => by
   have ha : p a = true := bK 0 (by simp) (by omega)
   rw [sV, if_pos ha, nc]
   congr 1
   refine zD (fun j h hj => ?_) (by simpa using hi) ?_
   · have := bK (j + 1) (by simp; omega) (by omega)
     simpa using this
   · rcases he with he | ⟨h, he⟩
     · left; simpa using he
     · right; exact ⟨by simpa using h, by simpa using he⟩
theorem RE {U : St} {R : cu -> St -> Prop} {v : AV} {ks : List Int} {ss : List nu} (hv : eN v ks.length (j6 ks)) (hl : ks.length <= 100000) (py : ss.length <= 100) (mN : ∀ s ∈ ss, s.least <= 1000 /\ s.nI <= 1000)
 (h : ∀ ad, cm U ad -> R (.ret (.bool (mI ks ss))) ad) : ae K 209 [v, iw ss] U R := by
 refine Kq ?_
 unfold Ko
 have W0 := M0 ss
 have hlen : bU (some false) (iw ss) = .val (.int .i64 ss.length) := W0.len
 rw [hlen, ah]
 refine ⟨fun m v0 v1 v11 v12 cb ad => ∃ (i : Nat) (ks' : List Int), m = ss.length - i /\ v1 = iw ss /\ v11 = iw ss /\ v12 = .int .i64 ss.length /\ cb = .int .i64 (i : Nat) /\ i <= ss.length /\ eN v0 ks'.length (j6 ks') /\ ks'.length <= ks.length /\ mI ks' (ss.drop i) = mI ks ss /\ cm U ad,
  ⟨_, 0, ks, rfl, rfl, rfl, rfl, rfl, by omega, hv, cG _, rfl, cm.refl _⟩, ?_⟩
 rintro m v0 v1 v11 v12 cb bH ⟨i, ks', rfl, rfl, rfl, rfl, rfl, hi, N7, NO, ly, e1⟩
 refine Dk (fun aK => ?_) fun hY => ?_
 · have aK : i < ss.length := by omega
   obtain ⟨s, hs⟩ : ∃ s, ss[i]? = some s := ⟨ss[i], by simp [aK]⟩
   have EA := mN s (fS hs)
   have Vt : ss.drop i = s :: ss.drop (i + 1) := by
    rw [gp aK]
    have := (dx.1 hs).2
    rw [this]
   refine Pg W0 hs ?_
   rw [cw]
   intro b6 nv
   have m6 : (bH.new b6 (.box [AV.cP, AV.int .i64 0, AV.int .i64 0])).box b6 = some [AV.cP, AV.int .i64 0, AV.int .i64 0] := aD
   have e2 := e1.new nv (x := .box [AV.cP, AV.int .i64 0, AV.int .i64 0])
   have f6 := e1.fresh nv.1
   generalize bH.new b6 (.box [AV.cP, AV.int .i64 0, AV.int .i64 0]) = bJ at *
   rw [cF m6]
   refine ⟨⟨rfl, rfl, by simp⟩, ?_⟩
   have g6 : (bJ.set b6 (.box (aw [AV.cP, AV.int .i64 0, AV.int .i64 0] 0 (au (.agg (jk s)))))).box b6 = some (jk s) := by rw [aR]; rfl
   have e3 := e2.set f6 (x := .box (aw [AV.cP, AV.int .i64 0, AV.int .i64 0] 0 (au (.agg (jk s)))))
   generalize bJ.set b6 (.box (aw [AV.cP, AV.int .i64 0, AV.int .i64 0] 0 (au (.agg (jk s))))) = c7 at *
   rw [c8]
   refine ⟨aX (by omega) (by omega), ?_⟩
   refine Qb aK fun v21 Wv => ?_
   have Sh : bU (some false) v21 = .val (.int .i64 (ss.drop (i + 1)).length) := Wv.len
   rw [Sh, ah]
   generalize F0 : ss.drop (i + 1) = rest at *
   have hrl : rest.length <= 100 := by rw [<- F0, List.length_drop]; omega
   have WY : ∀ s ∈ rest, s.least <= 1000 := fun s hs => (mN s (by rw [<- F0] at hs; exact List.mem_of_mem_drop hs)).1
   have Ch : ∀ n, ((rest.take n).map (·.least)).sum <= 1000 * n := by
    have : ∀ (l : List nu) (n : Nat), (∀ s ∈ l, s.least <= 1000) -> ((l.take n).map (·.least)).sum <= 1000 * n := by
     intro l
     induction l with
     | nil => intro n _; simp
     | cons a l ih =>
       intro n hm
       cases n with
       | zero => simp
       | succ n =>
         have := ih n fun s hs => hm s (by simp [hs])
         have := hm a (by simp)
         simp only [List.take_succ_cons, dN, List.sum_cons]; omega
    exact fun n => this rest n WY
   refine ⟨fun m w0 w1 w6 w7 Lb Lc wI XC XD XE ad => ∃ j : Nat, m = rest.length - j /\ w0 = v0 /\ w1 = iw ss /\ w6 = .box b6 0 /\ w7 = .int .i64 (((rest.take j).map (·.least)).sum : Nat) /\ Lb = iw ss /\ Lc = .int .i64 ss.length /\ wI = .int .i64 (i : Nat) /\ XC = v21 /\ XD = .int .i64 rest.length /\ XE = .int .i64 (j : Nat) /\ j <= rest.length /\ ad.box b6 = some (jk s) /\ cm U ad,
    ⟨_, 0, rfl, rfl, rfl, rfl, rfl, rfl, rfl, rfl, rfl, rfl, rfl, by omega, g6, e3⟩, ?_⟩
   clear e2 e3 g6 m6 nv
   rintro m w0 w1 w6 w7 Lb Lc wI XC XD XE cH ⟨j, rfl, rfl, rfl, rfl, rfl, rfl, rfl, rfl, rfl, rfl, rfl, hj, g6, e4⟩
   refine Dk (fun zd => ?_) fun aah => ?_
   · have zd : j < rest.length := by omega
     obtain ⟨s2, wc⟩ : ∃ s2, rest[j]? = some s2 := ⟨rest[j], by simp [zd]⟩
     refine Pg Wv wc ?_
     rw [cw]
     intro b9 vW
     have m9 : (cH.new b9 (.box [AV.cP, AV.int .i64 0, AV.int .i64 0])).box b9 = some [AV.cP, AV.int .i64 0, AV.int .i64 0] := aD
     have e5 := e4.new vW (x := .box [AV.cP, AV.int .i64 0, AV.int .i64 0])
     have f9 := e4.fresh vW.1
     have n9 := vW.cn g6
     have Wt := (bj vW (x := .box [AV.cP, AV.int .i64 0, AV.int .i64 0])).bf g6
     generalize cH.new b9 (.box [AV.cP, AV.int .i64 0, AV.int .i64 0]) = dy at *
     rw [cF m9]
     refine ⟨⟨rfl, rfl, by simp⟩, ?_⟩
     have g9 : (dy.set b9 (.box (aw [AV.cP, AV.int .i64 0, AV.int .i64 0] 0 (au (.agg (jk s2)))))).box b9 = some (jk s2) := by rw [aR]; rfl
     have XS : (dy.set b9 (.box (aw [AV.cP, AV.int .i64 0, AV.int .i64 0] 0 (au (.agg (jk s2)))))).box b6 = some (jk s) := by rw [aE n9]; exact Wt
     have e6 := e5.set f9 (x := .box (aw [AV.cP, AV.int .i64 0, AV.int .i64 0] 0 (au (.agg (jk s2)))))
     generalize dy.set b9 (.box (aw [AV.cP, AV.int .i64 0, AV.int .i64 0] 0 (au (.agg (jk s2))))) = ny at *
     simp only [aU, ah, cD]
     refine eW g9 rfl ?_
     have fC := Ch j
     have jO := WY s2 (fS wc)
     rw [c8]
     refine ⟨aX (by omega) (by omega), ?_⟩
     rw [c8]
     refine ⟨aX (by omega) (by omega), rest.length - (j + 1), by omega, j + 1, rfl, rfl, rfl, rfl, ?_, rfl, rfl, rfl, rfl, rfl, by simp, zd, XS, e6⟩
     have : rest.take (j + 1) = rest.take j ++ [s2] := by rw [sW, wc]; rfl
     rw [this]; simp
   · have hj : j = rest.length := by omega
     subst hj
     rw [qS]
     have fC := Ch rest.length
     rw [qS] at fC
     generalize Yk : (rest.map (·.least)).sum = sm at *
     have Vs : mI ks' (s :: rest) = if qn ks' s sm < s.least then false else mI (ks'.drop (qn ks' s sm)) rest := by rw [HJ, Yk]
     rw [Vt, Vs] at ly
     refine ⟨fun m u0 w1 w6 w7 XB Lb Lc wI ad => ∃ q : Nat, m = ks'.length - q /\ u0 = w0 /\ w1 = iw ss /\ w6 = .box b6 0 /\ w7 = .int .i64 (sm : Nat) /\ XB = .int .i64 (q : Nat) /\ Lb = iw ss /\ Lc = .int .i64 ss.length /\ wI = .int .i64 (i : Nat) /\ q <= min (ks'.length - sm) s.nI /\ (∀ (p : Nat) (hp : p < ks'.length), p < q -> s.c.is ks'[p] = true) /\ ad.box b6 = some (jk s) /\ cm U ad,
      ⟨_, 0, rfl, rfl, rfl, rfl, rfl, rfl, rfl, rfl, rfl, by omega, fun p hp h => by omega, g6, e4⟩, ?_⟩
     clear g6 e4
     rintro m u0 w1 w6 w7 XB Lb Lc wI dy ⟨q, rfl, rfl, rfl, rfl, rfl, rfl, rfl, rfl, rfl, hq, bK, g6, e5⟩
     intro jj wa
     have xS : bU (some false) u0 = .val (.int .i64 ks'.length) := N7.len
     have stop : qn ks' s sm = q -> jj u0 (iw ss) (.box b6 0) (.int .i64 (sm : Nat)) (.int .i64 (q : Nat)) (iw ss) (.int .i64 ss.length) (.int .i64 (i : Nat)) (.bool false) dy := fun hmq => by
      refine wa _ _ _ _ _ _ _ _ _ _ ?_
      refine dF ?_
      simp only [aU, ah, cD]
      refine eW g6 rfl ?_
      rw [hmq] at ly
      refine Dk (fun Sn => ?_) fun Sn => ?_
      · rw [if_pos (by omega)] at ly
        refine al.mk ?_
        rw [ly]; exact h _ e5
      · rw [if_neg (by omega)] at ly
        refine SK N7 (by omega) fun tN ZD => ?_
        rw [c8]
        refine ⟨aX (by omega) (by omega), ss.length - (i + 1), by omega, i + 1, ks'.drop q, rfl, rfl, rfl, rfl, by simp, aK, ZD, by simp; omega, ?_, e5⟩
        rw [F0]; exact ly
     have go : q < min (ks'.length - sm) s.nI -> (∀ k, ks'[q]? = some k -> s.c.is k = true) -> jj u0 (iw ss) (.box b6 0) (.int .i64 (sm : Nat)) (.int .i64 (q : Nat)) (iw ss) (.int .i64 ss.length) (.int .i64 (i : Nat)) (.bool true) dy := fun hql hqs => by
      refine wa _ _ _ _ _ _ _ _ _ _ ?_
      refine dq ?_
      rw [c8]
      refine ⟨aX (by omega) (by omega), ks'.length - (q + 1), by omega, q + 1, rfl, rfl, rfl, rfl, rfl, by simp, rfl, rfl, rfl, by omega, fun p hp Ey => ?_, g6, e5⟩
      rcases fT p q with aK | hY
      · exact bK p hp aK
      · have : p = q := by omega
        subst this; exact hqs _ (by simp [hp])
     have nI : q = min (ks'.length - sm) s.nI -> qn ks' s sm = q := fun hqe => by
      unfold qn
      rw [<- hqe]
      refine zD (fun p hp Ey => ?_) (by simp; omega) (.inl (by simp; omega))
      have := bK p (by simp at hp; omega) Ey
      simpa using this
     simp only [xS, aC, dP, db, fq]
     refine ⟨aX (by omega) (by omega), ?_⟩
     rw [bP, aC]
     by_cases h1 : (q : Int) < (ks'.length : Int) - (sm : Nat)
     · simp only [h1, cX, aW, fK]
       refine jv (RH (RI g6 rfl ?_))
       rw [bP]
       refine jv ?_
       simp only [aJ, if_true, aC]
       by_cases h2 : (q : Int) < (s.nI : Nat)
       · have hqk : q < ks'.length := by omega
         have hx : ks'[q]? = some ks'[q] := by simp [hqk]
         simp only [h2, cX, aW, fK]
         refine RH (RI g6 rfl (jv (jv (Vk N7 hx fun L => ?_))))
         refine dq ?_
         refine Rz ⟨fun b hb => rfl, ?_⟩
         simp only [aJ, if_true, aC]
         cases hc : s.c.is ks'[q] with
         | true => exact go (by omega) fun k hk => by rw [hx] at hk; cases hk; exact hc
         | false =>
           refine stop ?_
           unfold qn
           refine zD (fun p hp Ey => ?_) (by simp; omega) (.inr ⟨by simp; omega, by simpa using hc⟩)
           have := bK p (by simp at hp; omega) Ey
           simpa using this
       · simp only [h2, dz, aW, show (false == true) = false from rfl, aM, cc, aJ, bu, if_false, aC]
         exact dF (stop (nI (by omega)))
     · simp only [h1, dz, aW, show (false == true) = false from rfl, aM, cc, aJ, bu, if_false, aC]
       exact dF (stop (nI (by omega)))
 · have hi : i = ss.length := by omega
   subst hi
   rw [List.drop_length] at ly
   have xS : bU (some false) v0 = .val (.int .i64 ks'.length) := N7.len
   rw [xS, ah]
   refine G9 (al.eq (h _ e1) ?_)
   rw [<- ly, mI, AV.bool.injEq, nf, List.isEmpty_iff, dD]
   constructor
   · intro h; exact pK.1 (by omega)
   · rintro rfl; rfl
end Go.Rip
namespace Go.Rip
open Go.Proofs Go.RowKit
def Cx (l : List Nd) (en : Int) : Nat -> Nat -> Nat
 | 0, p => p
 | f + 1, p => match l[p]? with
   | some x => if (p : Int) < en /\ 0 < x.size then Cx l en f (p + x.size.toNat) else p
   | none => p
def behind (l : List Nd) (p : Nat) (ks : List Nat) : Nat := ks.foldl (fun _ k => k + a8 l k) p
theorem vO (l : List Nd) (p : Nat) (ks : List Nat) (k : Nat) : behind l p (ks ++ [k]) = k + a8 l k := by simp [behind]
theorem Ao (l : List Nd) (en : Int) : ∀ (f p : Nat), behind l p (fm l en f p) = Cx l en f p
 | 0, p => rfl
 | f + 1, p => by
   simp only [fm, Cx]
   cases hx : l[p]? with
   | none => rfl
   | some x =>
     simp only
     by_cases h : (p : Int) < en /\ 0 < x.size
     · rw [if_pos h, if_pos h, <- Ao l en f]
       have : a8 l p = x.size.toNat := by unfold a8; rw [hx]; rfl
       simp only [behind, List.foldl_cons, this]
     · rw [if_neg h, if_neg h]; rfl
theorem Ap {l : List Nd} (hs : tQ l) {en : Nat} (WE : en <= l.length) : ∀ (f p : Nat), Cx l en f p = n0 l en f p
 | 0, p => rfl
 | f + 1, p => by
   simp only [Cx]
   by_cases hp : p < en
   · have aK : p < l.length := by omega
     have hx : l[p]? = some l[p] := by simp [aK]
     have := hs.2.2 p _ hx
     rw [tk hx hp, hx]
     simp only
     rw [if_pos ⟨by omega, by omega⟩]
     exact Ap hs WE f _
   · rw [tl hp]
     split
     · rw [if_neg (fun h => hp (by omega))]
     · rfl
def fh (l : List Nd) (ks : List Nat) : List Int := ks.map fun k => ((l[k]?.map Nd.kind).getD 0)
def gb (l : List Nd) (n : Nat) (x : Nd) : Bool := match gw x.kind with
 | none => false
 | some f => decide (1 <= x.size /\ x.size <= (l.length : Int) - n) && (kz x f && ((fm l ((n : Int) + x.size) l.length (n + 1)).all (fun k => decide (1 <= a8 l k /\ (k : Int) + a8 l k <= n + x.size)) &&
    (decide (((behind l (n + 1) (fm l ((n : Int) + x.size) l.length (n + 1)) : Nat) : Int) = n + x.size) && mI (fh l (fm l ((n : Int) + x.size) l.length (n + 1))) f.kids)))
theorem Aw {l : List Nd} {n : Nat} {s : Tre} {x : Nd} (hs : eZ l n s) (hx : l[n]? = some x) : gb l n x = sI x (s.kids.map Tre.kind) := by
 obtain ⟨y, hy, _, da, _⟩ := hs.mE
 rw [hx] at hy; cases hy
 have hle := hs.le
 have jy := s.cV
 have hk : fm l ((n : Int) + x.size) l.length (n + 1) = cK (n + 1) s.kids := by rw [da]; exact Cy hs
 have rB := iD s
 have eL : ∀ (ts : List Tre) (p : Nat), js l p ts -> (cK p ts).all (fun k => decide (1 <= a8 l k /\ (k : Int) + a8 l k <= (p : Int) + (Tre.bg ts).length)) = true /\ behind l p (cK p ts) = p + (Tre.bg ts).length /\ fh l (cK p ts) = ts.map Tre.kind := by
  intro ts
  induction ts with
  | nil => intro p _; simp [cK, behind, fh]
  | cons t ts ih =>
    intro p sx
    obtain ⟨z, hz, hzk, rE, _⟩ := sx.head.mE
    have htp := t.cV
    have Cg : a8 l p = t.flat.length := by unfold a8; rw [hz]; simp; omega
    obtain ⟨i1, i2, i3⟩ := ih _ sx.tail
    refine ⟨?_, ?_, ?_⟩
    · simp only [cK, List.all_cons, bM, dD, Cg, Tre.cE, ep]
      refine ⟨⟨by omega, by omega⟩, ?_⟩
      rw [eh] at i1 ⊢
      intro k hk
      have := i1 k hk
      simp only [dD] at this ⊢
      omega
    · simp only [cK, behind, List.foldl_cons, Cg]
      have : behind l (p + t.flat.length) (cK (p + t.flat.length) ts) = p + (Tre.bg (t :: ts)).length := by rw [i2]; simp; omega
      exact this
    · simp only [cK, fh, dN, hz, Option.map_some, Option.getD_some, hzk]
      congr 1
 obtain ⟨h1, h2, h3⟩ := eL s.kids (n + 1) hs.kids
 unfold gb sI LH
 cases hf : gw x.kind with
 | none => simp
 | some f =>
   simp only
   rw [hk, zR hf, h2, h3]
   have e1 : decide (1 <= x.size /\ x.size <= (l.length : Int) - n) = true := by rw [dD]; omega
   have e2 : (cK (n + 1) s.kids).all (fun k => decide (1 <= a8 l k /\ (k : Int) + a8 l k <= n + x.size)) = true := by
    rw [eh] at h1 ⊢
    intro k hk
    have := h1 k hk
    simp only [dD] at this ⊢
    omega
   have e3 : decide (((n + 1 + (Tre.bg s.kids).length : Nat) : Int) = n + x.size) = true := by rw [dD]; omega
   rw [e1, e2, e3]; simp
theorem wq {l : List Nd} (bW : l ≠ []) (h0 : jF l = l.length) (h : ∀ n x, l[n]? = some x -> gb l n x = true) : AW l := by
 have tF : tQ l := by
  refine ⟨bW, h0, fun i x hx => ?_⟩
  have := h i x hx
  unfold gb at this
  split at this
  · cases this
  · simp only [bM, dD] at this
    exact this.1
 refine ⟨tF, fun i x hx => ?_⟩
 have hq := h i x hx
 have EC := tF.2.2 i x hx
 unfold gb at hq
 split at hq
 · cases hq
 · simp only [bM, dD] at hq
   have hb := hq.2.2.2.1
   rw [Ao] at hb
   have e : ((i : Int) + x.size) = ((i + x.size.toNat : Nat) : Int) := by omega
   rw [e] at hb
   rw [<- Ap tF (by omega)]
   exact_mod_cast hb
theorem AB {l : List Nd} {x0 : Nd} (h0 : l[0]? = some x0) : (x0.kind = 1 /\ x0.size = l.length /\ ∀ n x, l[n]? = some x -> gb l n x = true) ↔ ∃ t : Tre, l = t.flat /\ t.kind = 1 /\ t.ok = true := by
 constructor
 · rintro ⟨h1, h2, h3⟩
   have bW : l ≠ [] := by intro e; subst e; simp at h0
   have uw : jF l = l.length := by
    cases l with
    | nil => exact absurd rfl bW
    | cons y r => simp at h0; subst h0; exact h2
   obtain ⟨t, rfl⟩ := (AG l).1 (wq bW uw h3)
   obtain ⟨y, hy, hk, _⟩ := (eZ.whole t).mE
   rw [h0] at hy; cases hy
   refine ⟨t, rfl, by rw [<- hk, h1], ?_⟩
   have := CN (l := t.flat) _ [t] 0 (cG _) ⟨[], by simp⟩ (fun j s x _ hj hs hx => by rw [<- Aw hs hx]; exact h3 j x hx)
   simpa using this
 · rintro ⟨t, rfl, hk, ho⟩
   obtain ⟨y, hy, hyk, W7, _⟩ := (eZ.whole t).mE
   rw [h0] at hy; cases hy
   refine ⟨by rw [hyk, hk], W7, fun n x hx => ?_⟩
   obtain ⟨⟨s, _, hs, _⟩, _⟩ := place t (dx.1 hx).1
   rw [Aw hs hx]
   exact Ml (TC ho hs) hs hx
theorem oR {l : List Nd} (h9 : ¬ 900 < l.length) (h : ¬ ∃ t : Tre, l = t.flat /\ t.kind = 1 /\ t.ok = true) : dI l = 4 := by
 unfold dI
 rw [if_neg h9]
 cases ht : u5 l with
 | none => rfl
 | some t =>
   have := K3 ht
   subst this
   show yW t = 4
   unfold yW
   rw [if_pos]
   by_cases hk : t.kind = 1
   · right
     cases ho : t.ok with
     | false => rfl
     | true => exact absurd ⟨t, rfl, hk, ho⟩ h
   · exact .inl hk
theorem Ed {c : UInt8} (h : dX c = true) : mP c = true /\ c.toNat ≠ 32 /\ c.toNat ≠ 10 /\ c.toNat ≠ 126 := by
 simp only [dX, fN, nU, F9, hZ, dD] at h
 simp only [mP, dD]
 omega
theorem sH {s : aZ} (h : lB s = true) : mS s = .ok [⟨1, s, 0⟩] := by
 have hlen := DV h
 unfold lB at h
 rw [dD] at h
 rcases u6 h with ⟨_, _, _, ⟨c, r, e, hc⟩, bK⟩ | h' | h' | h'
 · have LU : qG s = (0, 0) := by
    unfold qG
    rw [if_neg (by omega)]
    have : s.findIdx? (fun c => !mP c) = none := by
     rw [List.findIdx?_eq_none_iff]
     intro x hx
     rw [eh] at bK
     have := Ed (bK x hx)
     simp [this.1]
    rw [this]
   unfold mS
   rw [LU]
   simp only [ne_eq, not_true, if_false]
   obtain ⟨n, hn⟩ : ∃ n, s.length = n + 1 := ⟨r.length, by rw [e]; simp⟩
   rw [hn, j9]
   subst e
   have aag := Ed (show dX c = true by rw [eh] at bK; exact bK c (by simp))
   simp only [dU]
   rw [if_neg (by omega), if_neg (by omega), h]
   simp only [ne_eq, not_true, if_false, uR, show ¬ ((0 : Nat) = 900) by omega, cD, gH]
   have WU : r.length = n := by simpa using hn
   cases n with
   | zero => simp only [j9]
   | succ n =>
     rw [j9, List.drop_of_length_le (by simp)]
 · omega
 · omega
 · omega
where
 DV {s : aZ} (h : lB s = true) : s.length <= 12 := by
  unfold lB at h
  rw [dD] at h
  rcases u6 h with h | h | h | h
  · exact h.2.2.1
  · omega
  · omega
  · omega
theorem GB (s : aZ) (hs : s.length <= 3000) : Pure K 208 [.str s] (.bool (lB s)) := by
 intro U R hR
 refine Km ?_
 unfold Kl
 refine (D6 s hs).go ?_
 cases hl : mS s with
 | bad p e =>
   have hn : lB s = false := by
    cases h : lB s with
    | false => rfl
    | true => rw [sH h] at hl; cases hl
   rw [hn] at hR
   have he : e ≠ 0 := by
    unfold mS at hl
    split at hl
    split at hl
    · rename_i he; cases hl; exact he
    · exact qj _ _ _ _ hl
   simp only [u7, bL, List.drop, bB, bl, ah, he, dz, aW, show (false == true) = false from rfl, aM, cc, aJ, bu, if_false]
   exact al.mk hR
 | ok L =>
   simp only [u7, bL, List.drop, bB, bl, ah, cX, aW, fK]
   have N6 := M7 L
   have hlen : bU (some false) (td L) = .val (.int .i64 L.length) := N6.len
   refine jv ?_
   rw [hlen]
   refine jv ?_
   rw [bl]
   refine jv ?_
   simp only [aJ, if_true, ah]
   by_cases h1 : L.length = 1
   · match L, h1 with
     | [t], _ =>
       have pA : pb t := (PI hl).1 t (by simp)
       have tok : ∀ (o : Nat) (c : AV) (kq : AV -> Prop), (lP t)[o]? = some c -> kq c -> aj K (.bool true) (aP (some (51, 3)) none (td [t]) (.int .i64 0)) fun a => aj K (.bool true) (af (some o) a) fun b => aj K (.bool true) (aq (some (false, 1)) b U) kq := fun o c kq hc hk => by
        obtain ⟨r', pw⟩ := wR hc []
        refine pJ ⟨by simp, ?_⟩
        refine pJ ?_
        simp only [Int.toNat_zero, Nat.zero_mul, dU, cQ, aC]
        refine pJ ?_
        rw [mY, show fU [t] = lP t ++ [] from rfl, pw, fP]; exact hk
       simp only [nc, uR, cD, show ((1 : Nat) : Int) = 1 from rfl, cX, aW, fK]
       refine jv (tok 0 (.int .u8 t.k) _ rfl ?_)
       rw [bl]
       refine jv ?_
       simp only [aJ, if_true, ah]
       by_cases hk : (t.k : Int) = 1
       · simp only [hk, cX, aW, fK]
         refine jv (tok 1 (.str t.s) _ rfl (jv ?_))
         rw [nQ]
         refine jv ?_
         simp only [aJ, if_true, ah]
         refine al.eq hR ?_
         rw [AV.bool.injEq, nf, dD]
         constructor
         · intro h
           have := pA.2
           rw [show t.k = 1 by omega] at this
           rw [<- h]; unfold lB; rw [this]; simp
         · intro h
           rw [sH h] at hl
           cases hl; rfl
       · simp only [hk, dz, aW, show (false == true) = false from rfl, aM, cc, aJ, bu, if_false, ah]
         refine al.eq hR ?_
         cases h : lB s with
         | false => rfl
         | true => rw [sH h] at hl; cases hl; exact absurd rfl hk
   · have BP : ¬ (L.length : Int) = 1 := by omega
     simp only [BP, dz, aW, show (false == true) = false from rfl, aM, cc, aJ, bu, if_false, ah]
     refine al.eq hR ?_
     cases h : lB s with
     | false => rfl
     | true => rw [sH h] at hl; cases hl; exact absurd rfl h1
where
 M7 (l : List Tk) : eN (td l) l.length (fU l) := by
  unfold td
  split
  · rename_i h; subst h; exact .inl ⟨rfl, rfl, rfl⟩
  · exact .inr ⟨_, rfl⟩
 qj : ∀ (f : Nat) (s : aZ) (p : Nat) (l : List Tk) {q : Nat} {e : Int}, j9 f s p l = .bad q e -> e ≠ 0
  | 0, s, p, l, q, e, h => by simp [j9] at h
  | f + 1, s, p, l, q, e, h => by
    simp only [j9] at h
    split at h
    · cases h
    · split at h
      · exact qj f s _ l h
      · split at h
        · exact qj f s _ l h
        · split at h
          · rename_i he; cases h; exact he
          · split at h
            · cases h; omega
            · exact qj f s _ _ h
end Go.Rip
