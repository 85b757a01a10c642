/- Lemmas for the proof: no conditions. -/
import Derived.Test.YtnfpmiiopiinbaaGreatDoorRipZz
import Derived.Test.YtnfpmiiopiinbaaGreatDoorRipW
import Derived.Test.YtnfpmiiopiinbaaGreatDoorRipH
import Derived.Test.YtnfpmiiopiinbaaGreatDoorRipG
import Derived.Test.YtnfpmiiopiinbaaGreatDoorRipP
set_option linter.unusedVariables false
set_option linter.unusedSimpArgs false
set_option linter.loopingSimpArgs false
namespace Go.Rip
open Go.Proofs Go.RowKit
theorem Hk (k : Int) : Pure K 179 [.int .u8 k] (.bool (oy k)) := by
 intro U R hR
 refine Lq ?_
 unfold Lp
 rw [dG, ai]
 refine yJ (fun _ => eK ..) (aj.eq hR ?_)
 simp only [oy, AV.bool.injEq]; grind
theorem zi (k : Int) : Pure K 206 [.int .u8 k] (.bool (jP k)) := by
 intro U R hR
 refine Ly ?_
 unfold Lx
 rw [aR, ai]
 refine rM (fun _ => aR ..) (aj.eq hR ?_)
 simp only [jP, AV.bool.injEq]; grind
theorem Ho (k : Int) : Pure K 181 [.int .u8 k] (.bool (pT k)) := by
 intro U R hR
 refine Ls ?_
 unfold Lr
 refine (zi k).go ?_
 refine rM (fun _ => aR ..) (aj.eq hR ?_)
 simp only [jP, pT, AV.bool.injEq]; grind
theorem zk (k : Int) : Pure K 185 [.int .u8 k] (.bool (fw k)) := by
 intro U R hR
 refine Lu ?_
 unfold Lt
 rw [dG, ai]
 refine yJ (fun _ => eK ..) (aj.eq hR ?_)
 simp only [fw, AV.bool.injEq]; grind
theorem JE (k : Int) : Pure K 207 [.int .u8 k] (.bool (jO k)) := by
 intro U R hR
 refine LA ?_
 unfold Lz
 refine (zk k).go ?_
 refine rM (fun _ => aR ..) ?_
 refine rM (fun _ => aR ..) (aj.eq hR ?_)
 simp only [fw, jO, AV.bool.injEq]; grind
theorem Hl (k c : Int) : Pure K 242 [.int .u8 k, .cj [.int .u8 c]] (.bool (decide (k = c))) := by
 intro U R hR
 refine Mf ?_
 unfold Me
 rw [og, bB]
 exact er (aj.mk hR)
theorem mQ (a b n : Int) : Pure K 122 [.int .i64 a, .int .i64 b, .int .i64 n] (.bool (decide (a <= n /\ n <= b))) := by
 intro U R hR
 refine J6 ?_
 unfold J5
 refine sY ?_
 by_cases h : a <= n
 · simp only [h, bM, aI, du]
   refine db (db ?_)
   rw [eK]
   refine db ?_
   simp only [ay, if_true, ai]
   refine aj.eq hR ?_
   simp [h]
 · simp only [h, bZ, aI, show (false == true) = false from rfl, aB, a8, ay, bm, if_false, ai]
   refine aj.eq hR ?_
   simp [h]
def uY : pX -> AV
 | .item => .func (.func 179) [] []
 | .type => .func (.func 181) [] []
 | .base => .func (.func 206) [] []
 | .term => .func (.func 185) [] []
 | .arg => .func (.func 207) [] []
 | .kind c => .func (.func 242) [] [.cj [.int .u8 c]]
theorem Ua {c : pX} {k : Int} {U : St} {K' : AV -> St -> Prop} {Kp : AV -> St -> Prop} (h : K' (.bool (c.is k)) U) : (fM K.P (uY c) [.int .u8 k]).wp K U K' Kp := by
 cases c with
 | item => simp only [uY, fM, show dz K.P 179 = true by kernel_rfl, if_true, iM, jc, ja]; exact (Hk k).go h
 | type => simp only [uY, fM, show dz K.P 181 = true by kernel_rfl, if_true, iM, jc, ja]; exact (Ho k).go h
 | base => simp only [uY, fM, show dz K.P 206 = true by kernel_rfl, if_true, iM, jc, ja]; exact (zi k).go h
 | term => simp only [uY, fM, show dz K.P 185 = true by kernel_rfl, if_true, iM, jc, ja]; exact (zk k).go h
 | arg => simp only [uY, fM, show dz K.P 207 = true by kernel_rfl, if_true, iM, jc, ja]; exact (JE k).go h
 | kind c => simp only [uY, fM, show dz K.P 242 = true by kernel_rfl, if_true, iM, jc, jb]; exact (Hl k c).go h
def jT (s : l8) : List AV := [uY s.c, .int .i64 (s.least : Nat), .int .i64 (s.mq : Nat)]
def lk (l : List l8) : List AV := l.flatMap jT
def jn (l : List l8) : AV := if l = [] then .ax else .vec l.length .full (lk l)
def kV (f : Ca) : List AV := [.bool f.text, .bool f.n, .bool f.m, jn f.kids]
theorem DU (L : List l8) : (lk L).length = 3 * L.length := by
 induction L with
 | nil => rfl
 | cons t L ih =>
   have : (lk (t :: L)).length = 3 + (lk L).length := by simp [lk, jT]; omega
   rw [this, ih, jy]; omega
theorem zr (L : List l8) (i : Nat) : (lk L).drop (i * 3) = lk (L.drop i) := by
 induction L generalizing i with
 | nil => simp [lk]
 | cons t L ih =>
   cases i with
   | zero => simp
   | succ i =>
     rw [Nat.add_mul, show i * 3 + 1 * 3 = 3 + i * 3 by omega, <- List.drop_drop, List.drop_succ_cons, <- ih]
     rfl
theorem OT {L : List l8} {i : Nat} {t : l8} (h : L[i]? = some t) : ∃ r, (lk L).drop (i * 3) = jT t ++ r := by
 rw [zr, gp (dy.1 h).1]
 refine ⟨lk (L.drop (i + 1)), ?_⟩
 have := (dy.1 h).2
 simp [lk, this]
theorem OU (l : List l8) : dX (jn l) l.length (lk l) := by
 unfold jn
 split
 · rename_i h; subst h; exact .inl ⟨rfl, rfl, rfl⟩
 · exact .inr ⟨_, rfl⟩
theorem Rb {v : AV} {ss : List l8} {s : l8} {i : Nat} {U : St} {K' : AV -> St -> Prop} {Kp : AV -> St -> Prop} (hv : dX v ss.length (lk ss)) (hs : ss[i]? = some s) (hk : K' (.agg (jT s)) U) :
 (aF (some (200, 3)) none v (.int .i64 (i : Nat))).wp K U (fun p U => (ao (some (true, 3)) p U).wp K U K' Kp) Kp := by
 have aJ := (dy.1 hs).1
 obtain ⟨c, rfl, k9⟩ := hv.at (sz := 3) (e := 200) aJ
 obtain ⟨r, hr⟩ := OT hs
 rw [k9, hr]
 refine ⟨by omega, ?_⟩
 rw [ai, AF]
 refine ⟨by simp [jT], ?_⟩
 have : (jT s ++ r).take 3 = jT s := by simp [jT]
 rw [this]; exact hk
theorem Bq {k : Int} {z : AV} : ∀ (ks : List Int) (vs : List AV), (∀ j ∈ ks, j ≠ k) -> kg .i (.int .u8 k) z true (ks.map (.int .u8)) vs = .val (.aO [z, .bool false])
 | [], vs, _ => by cases vs <;> rfl
 | j :: ks, [], _ => rfl
 | j :: ks, v :: vs, h => by
   have hj : ¬ k = j := fun e => h j (by simp) e.symm
   have : fz .i (.int .u8 k) (.int .u8 j) = some false := by simp [fz, hj]
   simp only [dx, kg, this, bm, if_false]
   exact Bq ks vs fun x hx => h x (by simp [hx])
def Eg : AV := .agg [AV.bool false, AV.bool false, AV.bool false, AV.ax]
def Jz (n : Nat) : Bool := match mD with
 | .eL ks vs => (match kg .i (.int .u8 n) Eg true ks vs with
   | .val v => gw v (match eC n with | some f => .aO [.agg (kV f), .bool true] | none => .aO [Eg, .bool false])
   | _ => false)
 | _ => false
theorem Hj : ∀ n : Fin 38, Jz n.val = true := by decide +kernel
end Go.Rip
namespace Go.Rip
open Go.Proofs Go.RowKit
theorem EK (ks : List Int) : (eF ks).length = ks.length := by simp [eF]
theorem XO {U : St} {v : AV} {ks : List Int} {i e : Nat} {k : Int} {kq : AV -> AV -> Prop} (hv : dX v ks.length (eF ks)) (hk : ks[i]? = some k) (h : ∀ L, kq (.cj L) (.int .u8 k)) :
 ad K (.bool true) (aF (some (e, 1)) none v (.int .i64 (i : Nat))) fun p => ad K (.bool true) (ao (some (false, 1)) p U) (kq p) := by
 have aJ := (dy.1 hk).1
 obtain ⟨c, rfl, k9⟩ := hv.at (sz := 1) (e := e) aJ
 obtain ⟨r, hr⟩ := Ag hk
 rw [k9, Nat.mul_one, hr]
 exact gT ⟨by omega, gT (h _)⟩
theorem Vp {v : AV} {ks : List Int} {i : Nat} {e : Nat} {U : St} {K' : AV -> St -> Prop} {Kp : AV -> St -> Prop} (hv : dX v ks.length (eF ks)) (hi : i <= ks.length) (hk : ∀ v', dX v' (ks.drop i).length (eF (ks.drop i)) -> K' v' U) :
 (dU false (some (e, 1)) v (some (.int .i64 (i : Nat))) none).wp K U K' Kp := by
 rcases hv with ⟨h0, h1, rfl⟩ | ⟨c, rfl⟩
 · have gM : ks = [] := rX.1 h0
   subst gM
   have AW : i = 0 := by simpa using hi
   subst AW
   simp only [dU, cV, wp_cond, ai]
   refine ⟨by simp, hk _ (.inl ⟨rfl, rfl, rfl⟩)⟩
 · rw [rz, fo, gA]
   refine ⟨by omega, ?_⟩
   refine hk _ (.inr ⟨oN c none, ?_⟩)
   have : ks.length - i = (ks.drop i).length := by rw [List.length_drop]
   simp only [dC, Nat.mul_one, this]
   rw [qC (by rw [EK]; exact de _)]
   congr 1
   simp [eF, List.map_drop]
theorem Sa {ss : List l8} {i : Nat} {U : St} {K' : AV -> St -> Prop} {Kp : AV -> St -> Prop} (hi : i < ss.length) (hk : ∀ v', dX v' (ss.drop (i + 1)).length (lk (ss.drop (i + 1))) -> K' v' U) :
 (dU false (some (200, 3)) (jn ss) (some (.int .i64 ((i : Nat) + 1))) none).wp K U K' Kp := by
 have cm : ss ≠ [] := by intro e; subst e; simp at hi
 unfold jn
 rw [if_neg cm, rz, fo, gA]
 refine ⟨by omega, ?_⟩
 refine hk _ (.inr ⟨oN .full none, ?_⟩)
 have : (ss.length : Int).toNat - ((i : Int) + 1).toNat = (ss.drop (i + 1)).length := by rw [List.length_drop]; omega
 rw [this]
 congr 1
 rw [dC, qC (by rw [DU]; omega), show ((i : Int) + 1).toNat = i + 1 by omega, zr]
def rk (ks : List Int) (s : l8) (rest : Nat) : Nat := ((ks.take (min (ks.length - rest) s.mq)).takeWhile s.c.is).length
theorem Ie (ks : List Int) (s : l8) (ss : List l8) : dk ks (s :: ss) = if rk ks s (ss.map (·.least)).sum < s.least then false else dk (ks.drop (rk ks s (ss.map (·.least)).sum)) ss := by
 rw [dk]; rfl
theorem AA {p : Int -> Bool} : ∀ {l : List Int} {i : Nat}, (∀ j (h : j < l.length), j < i -> p l[j] = true) -> i <= l.length -> (i = l.length \/ ∃ h : i < l.length, p l[i] = false) -> (l.takeWhile p).length = i
 | [], i, _, hi, _ => by simp at hi; simp [hi]
 | a :: l, 0, _, _, he => by
   rcases he with he | ⟨h, he⟩
   · simp at he
   · rw [nh]; simp at he; simp [he]
 | a :: l, i + 1, bq, hi, he => by
   have ha : p a = true := bq 0 (by simp) (by omega)
   rw [nh, if_pos ha, jy]
   congr 1
   refine AA (fun j h hj => ?_) (by simpa using hi) ?_
   · have := bq (j + 1) (by simp; omega) (by omega)
     simpa using this
   · rcases he with he | ⟨h, he⟩
     · left; simpa using he
     · right; exact ⟨by simpa using h, by simpa using he⟩
theorem Ui {U : St} {R : cB -> St -> Prop} {v : AV} {ks : List Int} {ss : List l8} (hv : dX v ks.length (eF ks)) (hl : ks.length <= 100000) (nD : ss.length <= 100) (kD : ∀ s ∈ ss, s.least <= 1000 /\ s.mq <= 1000)
 (h : ∀ ae, cH U ae -> R (.ret (.bool (dk ks ss))) ae) : af K 209 [v, jn ss] U R := by
 refine LG ?_
 unfold LF
 have Zp := OU ss
 have hlen : bw (some false) (jn ss) = .val (.int .i64 ss.length) := Zp.len
 rw [hlen, ai]
 refine ⟨fun m v0 v1 v11 v12 bD ae => ∃ (i : Nat) (ks' : List Int), m = ss.length - i /\ v1 = jn ss /\ v11 = jn ss /\ v12 = .int .i64 ss.length /\ bD = .int .i64 (i : Nat) /\ i <= ss.length /\ dX v0 ks'.length (eF ks') /\ ks'.length <= ks.length /\ dk ks' (ss.drop i) = dk ks ss /\ cH U ae,
  ⟨_, 0, ks, rfl, rfl, rfl, rfl, rfl, by omega, hv, de _, rfl, cH.refl _⟩, ?_⟩
 rintro m v0 v1 v11 v12 bD bT ⟨i, ks', rfl, rfl, rfl, rfl, rfl, hi, PY, sC, mh, e1⟩
 refine sX (fun aJ => ?_) fun gn => ?_
 · have aJ : i < ss.length := by omega
   obtain ⟨s, hs⟩ : ∃ s, ss[i]? = some s := ⟨ss[i], by simp [aJ]⟩
   have FC := kD s (fB hs)
   have XX : ss.drop i = s :: ss.drop (i + 1) := by
    rw [gp aJ]
    have := (dy.1 hs).2
    rw [this]
   refine Rb Zp hs ?_
   rw [dQ]
   intro b6 qU
   have m6 : (bT.new b6 (.box [AV.cX, AV.int .i64 0, AV.int .i64 0])).box b6 = some [AV.cX, AV.int .i64 0, AV.int .i64 0] := aN
   have e2 := e1.new qU (x := .box [AV.cX, AV.int .i64 0, AV.int .i64 0])
   have f6 := e1.fresh qU.1
   generalize bT.new b6 (.box [AV.cX, AV.int .i64 0, AV.int .i64 0]) = bR at *
   rw [dD m6]
   refine ⟨⟨rfl, rfl, by simp⟩, ?_⟩
   have g6 : (bR.set b6 (.box (aH [AV.cX, AV.int .i64 0, AV.int .i64 0] 0 (aA (.agg (jT s)))))).box b6 = some (jT s) := by rw [bo]; rfl
   have e3 := e2.set f6 (x := .box (aH [AV.cX, AV.int .i64 0, AV.int .i64 0] 0 (aA (.agg (jT s)))))
   generalize bR.set b6 (.box (aH [AV.cX, AV.int .i64 0, AV.int .i64 0] 0 (aA (.agg (jT s))))) = c8 at *
   rw [cn]
   refine ⟨aX (by omega) (by omega), ?_⟩
   refine Sa aJ fun v21 YN => ?_
   have UR : bw (some false) v21 = .val (.int .i64 (ss.drop (i + 1)).length) := YN.len
   rw [UR, ai]
   generalize GO : ss.drop (i + 1) = rest at *
   have hrl : rest.length <= 100 := by rw [<- GO, List.length_drop]; omega
   have Zm : ∀ s ∈ rest, s.least <= 1000 := fun s hs => (kD s (by rw [<- GO] at hs; exact List.mem_of_mem_drop hs)).1
   have Va : ∀ n, ((rest.take n).map (·.least)).sum <= 1000 * n := by
    have : ∀ (l : List l8) (n : Nat), (∀ s ∈ l, s.least <= 1000) -> ((l.take n).map (·.least)).sum <= 1000 * n := by
     intro l
     induction l with
     | nil => intro n _; simp
     | cons a l ih =>
       intro n hm
       cases n with
       | zero => simp
       | succ n =>
         have := ih n fun s hs => hm s (by simp [hs])
         have := hm a (by simp)
         simp only [List.take_succ_cons, dx, List.sum_cons]; omega
    exact fun n => this rest n Zm
   refine ⟨fun m w0 w1 w6 w7 MI MJ MK ZU ZV ZW ae => ∃ j : Nat, m = rest.length - j /\ w0 = v0 /\ w1 = jn ss /\ w6 = .box b6 0 /\ w7 = .int .i64 (((rest.take j).map (·.least)).sum : Nat) /\ MI = jn ss /\ MJ = .int .i64 ss.length /\ MK = .int .i64 (i : Nat) /\ ZU = v21 /\ ZV = .int .i64 rest.length /\ ZW = .int .i64 (j : Nat) /\ j <= rest.length /\ ae.box b6 = some (jT s) /\ cH U ae,
    ⟨_, 0, rfl, rfl, rfl, rfl, rfl, rfl, rfl, rfl, rfl, rfl, rfl, by omega, g6, e3⟩, ?_⟩
   clear e2 e3 g6 m6 qU
   rintro m w0 w1 w6 w7 MI MJ MK ZU ZV ZW dq ⟨j, rfl, rfl, rfl, rfl, rfl, rfl, rfl, rfl, rfl, rfl, rfl, hj, g6, e4⟩
   refine sX (fun tt => ?_) fun aah => ?_
   · have tt : j < rest.length := by omega
     obtain ⟨s2, A7⟩ : ∃ s2, rest[j]? = some s2 := ⟨rest[j], by simp [tt]⟩
     refine Rb YN A7 ?_
     rw [dQ]
     intro b9 PA
     have m9 : (dq.new b9 (.box [AV.cX, AV.int .i64 0, AV.int .i64 0])).box b9 = some [AV.cX, AV.int .i64 0, AV.int .i64 0] := aN
     have e5 := e4.new PA (x := .box [AV.cX, AV.int .i64 0, AV.int .i64 0])
     have f9 := e4.fresh PA.1
     have n9 := PA.cD g6
     have YK := (bH PA (x := .box [AV.cX, AV.int .i64 0, AV.int .i64 0])).bL g6
     generalize dq.new b9 (.box [AV.cX, AV.int .i64 0, AV.int .i64 0]) = eh at *
     rw [dD m9]
     refine ⟨⟨rfl, rfl, by simp⟩, ?_⟩
     have g9 : (eh.set b9 (.box (aH [AV.cX, AV.int .i64 0, AV.int .i64 0] 0 (aA (.agg (jT s2)))))).box b9 = some (jT s2) := by rw [bo]; rfl
     have Z5 : (eh.set b9 (.box (aH [AV.cX, AV.int .i64 0, AV.int .i64 0] 0 (aA (.agg (jT s2)))))).box b6 = some (jT s) := by rw [aY n9]; exact YK
     have e6 := e5.set f9 (x := .box (aH [AV.cX, AV.int .i64 0, AV.int .i64 0] 0 (aA (.agg (jT s2)))))
     generalize eh.set b9 (.box (aH [AV.cX, AV.int .i64 0, AV.int .i64 0] 0 (aA (.agg (jT s2))))) = pb at *
     simp only [aV, ai, cq]
     refine et g9 rfl ?_
     have dK := Va j
     have ij := Zm s2 (fB A7)
     rw [cn]
     refine ⟨aX (by omega) (by omega), ?_⟩
     rw [cn]
     refine ⟨aX (by omega) (by omega), rest.length - (j + 1), by omega, j + 1, rfl, rfl, rfl, rfl, ?_, rfl, rfl, rfl, rfl, rfl, by simp, tt, Z5, e6⟩
     have : rest.take (j + 1) = rest.take j ++ [s2] := by rw [pk, A7]; rfl
     rw [this]; simp
   · have hj : j = rest.length := by omega
     subst hj
     rw [pj]
     have dK := Va rest.length
     rw [pj] at dK
     generalize aav : (rest.map (·.least)).sum = sm at *
     have XW : dk ks' (s :: rest) = if rk ks' s sm < s.least then false else dk (ks'.drop (rk ks' s sm)) rest := by rw [Ie, aav]
     rw [XX, XW] at mh
     refine ⟨fun m u0 w1 w6 w7 ZT MI MJ MK ae => ∃ q : Nat, m = ks'.length - q /\ u0 = w0 /\ w1 = jn ss /\ w6 = .box b6 0 /\ w7 = .int .i64 (sm : Nat) /\ ZT = .int .i64 (q : Nat) /\ MI = jn ss /\ MJ = .int .i64 ss.length /\ MK = .int .i64 (i : Nat) /\ q <= min (ks'.length - sm) s.mq /\ (∀ (p : Nat) (hp : p < ks'.length), p < q -> s.c.is ks'[p] = true) /\ ae.box b6 = some (jT s) /\ cH U ae,
      ⟨_, 0, rfl, rfl, rfl, rfl, rfl, rfl, rfl, rfl, rfl, by omega, fun p hp h => by omega, g6, e4⟩, ?_⟩
     clear g6 e4
     rintro m u0 w1 w6 w7 ZT MI MJ MK eh ⟨q, rfl, rfl, rfl, rfl, rfl, rfl, rfl, rfl, rfl, hq, bq, g6, e5⟩
     intro jj w9
     have GN : bw (some false) u0 = .val (.int .i64 ks'.length) := PY.len
     have stop : rk ks' s sm = q -> jj u0 (jn ss) (.box b6 0) (.int .i64 (sm : Nat)) (.int .i64 (q : Nat)) (jn ss) (.int .i64 ss.length) (.int .i64 (i : Nat)) (.bool false) eh := fun hmq => by
      refine w9 _ _ _ _ _ _ _ _ _ _ ?_
      refine cO ?_
      simp only [aV, ai, cq]
      refine et g6 rfl ?_
      rw [hmq] at mh
      refine sX (fun hml => ?_) fun hml => ?_
      · rw [if_pos (by omega)] at mh
        refine aj.mk ?_
        rw [mh]; exact h _ e5
      · rw [if_neg (by omega)] at mh
        refine Vp PY (by omega) fun uI h61 => ?_
        rw [cn]
        refine ⟨aX (by omega) (by omega), ss.length - (i + 1), by omega, i + 1, ks'.drop q, rfl, rfl, rfl, rfl, by simp, aJ, h61, by simp; omega, ?_, e5⟩
        rw [GO]; exact mh
     have go : q < min (ks'.length - sm) s.mq -> (∀ k, ks'[q]? = some k -> s.c.is k = true) -> jj u0 (jn ss) (.box b6 0) (.int .i64 (sm : Nat)) (.int .i64 (q : Nat)) (jn ss) (.int .i64 ss.length) (.int .i64 (i : Nat)) (.bool true) eh := fun hql hqs => by
      refine w9 _ _ _ _ _ _ _ _ _ _ ?_
      refine cu ?_
      rw [cn]
      refine ⟨aX (by omega) (by omega), ks'.length - (q + 1), by omega, q + 1, rfl, rfl, rfl, rfl, rfl, by simp, rfl, rfl, rfl, by omega, fun p hp PT => ?_, g6, e5⟩
      rcases eG p q with aJ | gn
      · exact bq p hp aJ
      · have : p = q := by omega
        subst this; exact hqs _ (by simp [hp])
     have mq : q = min (ks'.length - sm) s.mq -> rk ks' s sm = q := fun C2 => by
      unfold rk
      rw [<- C2]
      refine AA (fun p hp PT => ?_) (by simp; omega) (.inl (by simp; omega))
      have := bq p (by simp at hp; omega) PT
      simpa using this
     simp only [GN, au, dH, dp, gD]
     refine ⟨aX (by omega) (by omega), ?_⟩
     rw [bj, au]
     by_cases h1 : (q : Int) < (ks'.length : Int) - (sm : Nat)
     · simp only [h1, bM, aI, du]
       refine db (Ul (CH g6 rfl ?_))
       rw [bj]
       refine db ?_
       simp only [ay, if_true, au]
       by_cases h2 : (q : Int) < (s.mq : Nat)
       · have hqk : q < ks'.length := by omega
         have hx : ks'[q]? = some ks'[q] := by simp [hqk]
         simp only [h2, bM, aI, du]
         refine Ul (CH g6 rfl (db (db (XO PY hx fun L => ?_))))
         refine cu ?_
         refine Ua ⟨fun b hb => rfl, ?_⟩
         simp only [ay, if_true, au]
         cases hc : s.c.is ks'[q] with
         | true => exact go (by omega) fun k hk => by rw [hx] at hk; cases hk; exact hc
         | false =>
           refine stop ?_
           unfold rk
           refine AA (fun p hp PT => ?_) (by simp; omega) (.inr ⟨by simp; omega, by simpa using hc⟩)
           have := bq p (by simp at hp; omega) PT
           simpa using this
       · simp only [h2, bZ, aI, show (false == true) = false from rfl, aB, a8, ay, bm, if_false, au]
         exact cO (stop (mq (by omega)))
     · simp only [h1, bZ, aI, show (false == true) = false from rfl, aB, a8, ay, bm, if_false, au]
       exact cO (stop (mq (by omega)))
 · have hi : i = ss.length := by omega
   subst hi
   rw [List.drop_length] at mh
   have GN : bw (some false) v0 = .val (.int .i64 ks'.length) := PY.len
   rw [GN, ai]
   refine er (aj.eq (h _ e1) ?_)
   rw [<- mh, dk, AV.bool.injEq, lE, List.isEmpty_iff, cL]
   constructor
   · intro h; exact rX.1 (by omega)
   · rintro rfl; rfl
end Go.Rip
namespace Go.Rip
open Go.Proofs Go.RowKit
def Dk (l : List Nd) (en : Int) : Nat -> Nat -> Nat
 | 0, p => p
 | f + 1, p => match l[p]? with
   | some x => if (p : Int) < en /\ 0 < x.size then Dk l en f (p + x.size.toNat) else p
   | none => p
def behind (l : List Nd) (p : Nat) (ks : List Nat) : Nat := ks.foldl (fun _ k => k + eH l k) p
theorem wR (l : List Nd) (p : Nat) (ks : List Nat) (k : Nat) : behind l p (ks ++ [k]) = k + eH l k := by simp [behind]
theorem Bk (l : List Nd) (en : Int) : ∀ (f p : Nat), behind l p (ff l en f p) = Dk l en f p
 | 0, p => rfl
 | f + 1, p => by
   simp only [ff, Dk]
   cases hx : l[p]? with
   | none => rfl
   | some x =>
     simp only
     by_cases h : (p : Int) < en /\ 0 < x.size
     · rw [if_pos h, if_pos h, <- Bk l en f]
       have : eH l p = x.size.toNat := by unfold eH; rw [hx]; rfl
       simp only [behind, List.foldl_cons, this]
     · rw [if_neg h, if_neg h]; rfl
theorem Bl {l : List Nd} (hs : pZ l) {en : Nat} (PC : en <= l.length) : ∀ (f p : Nat), Dk l en f p = lZ l en f p
 | 0, p => rfl
 | f + 1, p => by
   simp only [Dk]
   by_cases hp : p < en
   · have aJ : p < l.length := by omega
     have hx : l[p]? = some l[p] := by simp [aJ]
     have := hs.2.2 p _ hx
     rw [pM hx hp, hx]
     simp only
     rw [if_pos ⟨by omega, by omega⟩]
     exact Bl hs PC f _
   · rw [pN hp]
     split
     · rw [if_neg (fun h => hp (by omega))]
     · rfl
def fP (l : List Nd) (ks : List Nat) : List Int := ks.map fun k => ((l[k]?.map Nd.kind).getD 0)
def gC (l : List Nd) (n : Nat) (x : Nd) : Bool := match eC x.kind with
 | none => false
 | some f => decide (1 <= x.size /\ x.size <= (l.length : Int) - n) && (ly x f && ((ff l ((n : Int) + x.size) l.length (n + 1)).all (fun k => decide (1 <= eH l k /\ (k : Int) + eH l k <= n + x.size)) &&
    (decide (((behind l (n + 1) (ff l ((n : Int) + x.size) l.length (n + 1)) : Nat) : Int) = n + x.size) && dk (fP l (ff l ((n : Int) + x.size) l.length (n + 1))) f.kids)))
theorem Bs {l : List Nd} {n : Nat} {s : Tre} {x : Nd} (hs : eS l n s) (hx : l[n]? = some x) : gC l n x = lU x (s.kids.map Tre.kind) := by
 obtain ⟨y, hy, _, dE, _⟩ := hs.kB
 rw [hx] at hy; cases hy
 have hle := hs.le
 have mY := s.dh
 have hk : ff l ((n : Int) + x.size) l.length (n + 1) = bJ (n + 1) s.kids := by rw [dE]; exact xR hs
 have CP := j9 s
 have eY : ∀ (ts : List Tre) (p : Nat), jr l p ts -> (bJ p ts).all (fun k => decide (1 <= eH l k /\ (k : Int) + eH l k <= (p : Int) + (Tre.bC ts).length)) = true /\ behind l p (bJ p ts) = p + (Tre.bC ts).length /\ fP l (bJ p ts) = ts.map Tre.kind := by
  intro ts
  induction ts with
  | nil => intro p _; simp [bJ, behind, fP]
  | cons t ts ih =>
    intro p ju
    obtain ⟨z, hz, hzk, sG, _⟩ := ju.head.kB
    have htp := t.dh
    have A8 : eH l p = t.flat.length := by unfold eH; rw [hz]; simp; omega
    obtain ⟨i1, i2, i3⟩ := ih _ ju.tail
    refine ⟨?_, ?_, ?_⟩
    · simp only [bJ, List.all_cons, bP, cL, A8, Tre.cY, fU]
      refine ⟨⟨by omega, by omega⟩, ?_⟩
      rw [dP] at i1 ⊢
      intro k hk
      have := i1 k hk
      simp only [cL] at this ⊢
      omega
    · simp only [bJ, behind, List.foldl_cons, A8]
      have : behind l (p + t.flat.length) (bJ (p + t.flat.length) ts) = p + (Tre.bC (t :: ts)).length := by rw [i2]; simp; omega
      exact this
    · simp only [bJ, fP, dx, hz, Option.map_some, Option.getD_some, hzk]
      congr 1
 obtain ⟨h1, h2, h3⟩ := eY s.kids (n + 1) hs.kids
 unfold gC lU nQ
 cases hf : eC x.kind with
 | none => simp
 | some f =>
   simp only
   rw [hk, AQ hf, h2, h3]
   have e1 : decide (1 <= x.size /\ x.size <= (l.length : Int) - n) = true := by rw [cL]; omega
   have e2 : (bJ (n + 1) s.kids).all (fun k => decide (1 <= eH l k /\ (k : Int) + eH l k <= n + x.size)) = true := by
    rw [dP] at h1 ⊢
    intro k hk
    have := h1 k hk
    simp only [cL] at this ⊢
    omega
   have e3 : decide (((n + 1 + (Tre.bC s.kids).length : Nat) : Int) = n + x.size) = true := by rw [cL]; omega
   rw [e1, e2, e3]; simp
theorem xp {l : List Nd} (cm : l ≠ []) (h0 : jm l = l.length) (h : ∀ n x, l[n]? = some x -> gC l n x = true) : td l := by
 have sE : pZ l := by
  refine ⟨cm, h0, fun i x hx => ?_⟩
  have := h i x hx
  unfold gC at this
  split at this
  · cases this
  · simp only [bP, cL] at this
    exact this.1
 refine ⟨sE, fun i x hx => ?_⟩
 have hq := h i x hx
 have xf := sE.2.2 i x hx
 unfold gC at hq
 split at hq
 · cases hq
 · simp only [bP, cL] at hq
   have hb := hq.2.2.2.1
   rw [Bk] at hb
   have e : ((i : Int) + x.size) = ((i + x.size.toNat : Nat) : Int) := by omega
   rw [e] at hb
   rw [<- Bl sE (by omega)]
   exact_mod_cast hb
theorem By {l : List Nd} {x0 : Nd} (h0 : l[0]? = some x0) : (x0.kind = 1 /\ x0.size = l.length /\ ∀ n x, l[n]? = some x -> gC l n x = true) ↔ ∃ t : Tre, l = t.flat /\ t.kind = 1 /\ t.ok = true := by
 constructor
 · rintro ⟨h1, h2, h3⟩
   have cm : l ≠ [] := by intro e; subst e; simp at h0
   have qX : jm l = l.length := by
    cases l with
    | nil => exact absurd rfl cm
    | cons y r => simp at h0; subst h0; exact h2
   obtain ⟨t, rfl⟩ := (ry l).1 (xp cm qX h3)
   obtain ⟨y, hy, hk, _⟩ := (eS.whole t).kB
   rw [h0] at hy; cases hy
   refine ⟨t, rfl, by rw [<- hk, h1], ?_⟩
   have := zh (l := t.flat) _ [t] 0 (de _) ⟨[], by simp⟩ (fun j s x _ hj hs hx => by rw [<- Bs hs hx]; exact h3 j x hx)
   simpa using this
 · rintro ⟨t, rfl, hk, ho⟩
   obtain ⟨y, hy, Vj, hys, _⟩ := (eS.whole t).kB
   rw [h0] at hy; cases hy
   refine ⟨by rw [Vj, hk], hys, fun n x hx => ?_⟩
   obtain ⟨⟨s, _, hs, _⟩, _⟩ := place t (dy.1 hx).1
   rw [Bs hs hx]
   exact xX (D0 ho hs) hs hx
theorem yy {l : List Nd} (h9 : ¬ 900 < l.length) (h : ¬ ∃ t : Tre, l = t.flat /\ t.kind = 1 /\ t.ok = true) : gu l = 4 := by
 unfold gu
 rw [if_neg h9]
 cases ht : vV l with
 | none => rfl
 | some t =>
   have := ME ht
   subst this
   show p6 t = 4
   unfold p6
   rw [if_pos]
   by_cases hk : t.kind = 1
   · right
     cases ho : t.ok with
     | false => rfl
     | true => exact absurd ⟨t, rfl, hk, ho⟩ h
   · exact .inl hk
theorem Fe {c : UInt8} (h : cK c = true) : nU c = true /\ c.toNat ≠ 32 /\ c.toNat ≠ 10 /\ c.toNat ≠ 126 := by
 simp only [cK, dS, iQ, wo, iZ, cL] at h
 simp only [nU, cL]
 omega
theorem tK {s : bg} (h : iB s = true) : nX s = .ok [⟨1, s, 0⟩] := by
 have hlen := EP h
 unfold iB at h
 rw [cL] at h
 rcases vW h with ⟨_, _, _, ⟨c, r, e, hc⟩, bq⟩ | h' | h' | h'
 · have Aa : rH s = (0, 0) := by
    unfold rH
    rw [if_neg (by omega)]
    have : s.findIdx? (fun c => !nU c) = none := by
     rw [List.findIdx?_eq_none_iff]
     intro x hx
     rw [dP] at bq
     have := Fe (bq x hx)
     simp [this.1]
    rw [this]
   unfold nX
   rw [Aa]
   simp only [ne_eq, not_true, if_false]
   obtain ⟨n, hn⟩ : ∃ n, s.length = n + 1 := ⟨r.length, by rw [e]; simp⟩
   rw [hn, kX]
   subst e
   have abu := Fe (show cK c = true by rw [dP] at bq; exact bq c (by simp))
   simp only [ej]
   rw [if_neg (by omega), if_neg (by omega), h]
   simp only [ne_eq, not_true, if_false, oE, show ¬ ((0 : Nat) = 900) by omega, cq, jc]
   have Zg : r.length = n := by simpa using hn
   cases n with
   | zero => simp only [kX]
   | succ n =>
     rw [kX, List.drop_of_length_le (by simp)]
 · omega
 · omega
 · omega
where
 EP {s : bg} (h : iB s = true) : s.length <= 12 := by
  unfold iB at h
  rw [cL] at h
  rcases vW h with h | h | h | h
  · exact h.2.2.1
  · omega
  · omega
  · omega
theorem Hn (s : bg) (hs : s.length <= 3000) : Pure K 208 [.str s] (.bool (iB s)) := by
 intro U R hR
 refine LC ?_
 unfold LB
 refine (E8 s hs).go ?_
 cases hl : nX s with
 | bad p e =>
   have hn : iB s = false := by
    cases h : iB s with
    | false => rfl
    | true => rw [tK h] at hl; cases hl
   rw [hn] at hR
   have he : e ≠ 0 := by
    unfold nX at hl
    split at hl
    split at hl
    · rename_i he; cases hl; exact he
    · exact re _ _ _ _ hl
   simp only [vX, bK, List.drop, bB, aR, ai, he, bZ, aI, show (false == true) = false from rfl, aB, a8, ay, bm, if_false]
   exact aj.mk hR
 | ok L =>
   simp only [vX, bK, List.drop, bB, aR, ai, bM, aI, du]
   have htl := OZ L
   have hlen : bw (some false) (uh L) = .val (.int .i64 L.length) := htl.len
   refine db ?_
   rw [hlen]
   refine db ?_
   rw [aR]
   refine db ?_
   simp only [ay, if_true, ai]
   by_cases h1 : L.length = 1
   · match L, h1 with
     | [t], _ =>
       have sF : p4 t := (RG hl).1 t (by simp)
       have tok : ∀ (o : Nat) (c : AV) (kq : AV -> Prop), (mL t)[o]? = some c -> kq c -> ad K (.bool true) (aF (some (51, 3)) none (uh [t]) (.int .i64 0)) fun a => ad K (.bool true) (ah (some o) a) fun b => ad K (.bool true) (ao (some (false, 1)) b U) kq := fun o c kq hc hk => by
        obtain ⟨r', qm⟩ := xM hc []
        refine gT ⟨by simp, ?_⟩
        refine gT ?_
        simp only [Int.toNat_zero, Nat.zero_mul, ej, cQ, au]
        refine gT ?_
        rw [kJ, show gx [t] = mL t ++ [] from rfl, qm, eQ]; exact hk
       simp only [jy, oE, cq, show ((1 : Nat) : Int) = 1 from rfl, bM, aI, du]
       refine db (tok 0 (.int .u8 t.k) _ rfl ?_)
       rw [aR]
       refine db ?_
       simp only [ay, if_true, ai]
       by_cases hk : (t.k : Int) = 1
       · simp only [hk, bM, aI, du]
         refine db (tok 1 (.str t.s) _ rfl (db ?_))
         rw [ic]
         refine db ?_
         simp only [ay, if_true, ai]
         refine aj.eq hR ?_
         rw [AV.bool.injEq, lE, cL]
         constructor
         · intro h
           have := sF.2
           rw [show t.k = 1 by omega] at this
           rw [<- h]; unfold iB; rw [this]; simp
         · intro h
           rw [tK h] at hl
           cases hl; rfl
       · simp only [hk, bZ, aI, show (false == true) = false from rfl, aB, a8, ay, bm, if_false, ai]
         refine aj.eq hR ?_
         cases h : iB s with
         | false => rfl
         | true => rw [tK h] at hl; cases hl; exact absurd rfl hk
   · have CK : ¬ (L.length : Int) = 1 := by omega
     simp only [CK, bZ, aI, show (false == true) = false from rfl, aB, a8, ay, bm, if_false, ai]
     refine aj.eq hR ?_
     cases h : iB s with
     | false => rfl
     | true => rw [tK h] at hl; cases hl; exact absurd rfl h1
where
 OZ (l : List Tk) : dX (uh l) l.length (gx l) := by
  unfold uh
  split
  · rename_i h; subst h; exact .inl ⟨rfl, rfl, rfl⟩
  · exact .inr ⟨_, rfl⟩
 re : ∀ (f : Nat) (s : bg) (p : Nat) (l : List Tk) {q : Nat} {e : Int}, kX f s p l = .bad q e -> e ≠ 0
  | 0, s, p, l, q, e, h => by simp [kX] at h
  | f + 1, s, p, l, q, e, h => by
    simp only [kX] at h
    split at h
    · cases h
    · split at h
      · exact re f s _ l h
      · split at h
        · exact re f s _ l h
        · split at h
          · rename_i he; cases h; exact he
          · split at h
            · cases h; omega
            · exact re f s _ _ h
end Go.Rip
