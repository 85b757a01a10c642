/- Lemmas for the proof: no conditions. -/
import Derived.Test.YtnfpmiiopiinbaaGreatDoorRipZz
import Derived.Test.YtnfpmiiopiinbaaGreatDoorRipO
import Derived.Test.YtnfpmiiopiinbaaGreatDoorRipP
import Derived.Test.YtnfpmiiopiinbaaGreatDoorRipJ
import Derived.Test.YtnfpmiiopiinbaaGreatDoorRipK
set_option linter.unusedVariables false
set_option linter.unusedSimpArgs false
set_option linter.loopingSimpArgs false
namespace Go.Rip
open Go.Proofs Go.RowKit
def fO (x : Nd) : List AV := [.int .u8 x.kind, .str x.text, .int .i64 x.n, .int .i64 x.m, .int .i64 x.at_, .int .i64 x.size]
def bJ (l : List Nd) : List AV := l.flatMap fO
theorem oW (l l' : List Nd) : bJ (l ++ l') = bJ l ++ bJ l' := by simp [bJ]
theorem fj (L : List Nd) : (bJ L).length = 6 * L.length := by
 induction L with
 | nil => rfl
 | cons t L ih =>
   have : (bJ (t :: L)).length = 6 + (bJ L).length := by simp [bJ, fO]; omega
   rw [this, ih, lk]; omega
theorem MG (L : List Nd) (i : Nat) : (bJ L).drop (i * 6) = bJ (L.drop i) := by
 induction L generalizing i with
 | nil => simp [bJ]
 | cons t L ih =>
   cases i with
   | zero => simp
   | succ i =>
     rw [Nat.add_mul, show i * 6 + 1 * 6 = 6 + i * 6 by omega, <- List.drop_drop, List.drop_succ_cons, <- ih]
     rfl
theorem y9 {L : List Nd} {i : Nat} {t : Nd} (h : L[i]? = some t) : ∃ r, (bJ L).drop (i * 6) = fO t ++ r := by
 rw [MG, gX (dP.1 h).1]
 refine ⟨bJ (L.drop (i + 1)), ?_⟩
 have := (dP.1 h).2
 simp [bJ, this]
section
variable {C : cV} {U : St} {K' : AV -> St -> Prop} {Kp : AV -> St -> Prop} {e sz n b m : Nat} {L l2 z : List AV} {y : AV}
theorem ud {ps : List (Nat × AV)} : (aA (some (e, sz)) (some z) n true ps).wp C U K' Kp = (n * sz <= 16777216 /\ (fE (fun i => some (i * sz, sz)) ps (bB n z) fun cs => .cond (cs.length = n * sz) (.om n sz e none cs)).wp C U K' Kp) := by
 simp only [aA, if_true]; rfl
theorem zp {pl : Nat -> Option (Nat × Nat)} {k : Nat} : (fE pl [] L fun cs => .cond (cs.length = k) (.om n sz e none cs)).wp C U K' Kp = (L.length = k /\ ∀ b, U.dB b -> K' (.ms b 0 n sz e) (U.new b (.box L))) := rfl
theorem Cb {mu : Bool} (hb : U.box b = some L) (hy : qp U y = some (m, l2)) (h : l2.length = m * sz /\ n * sz <= L.length /\ n + m <= 4294967296) (hk : ∀ b', (U.del b).dB b' -> K' (.ms b' 0 (n + m) sz e) ((U.del b).new b' (.box (L.take (n * sz) ++ l2)))) : (dc (some (e, sz)) mu (.ms b 0 n sz e) y U).wp C U K' Kp := by
 simp only [dc, hy, hb, wp_cond]
 exact ⟨h.1, ⟨trivial, trivial, trivial, h.2.1, h.2.2⟩, hk⟩
end
def Ptr (U : St) (p : AV) (cs : List AV) : Prop := p = .cP cs \/ ∃ b, p = .box b 0 /\ U.box b = some cs
def Cp (a : AV) (l : List Nd) : Prop := ∀ (U : St) (R : cS -> St -> Prop), (∀ af, dr U af -> R (.ret (.vec l.length .gC (bJ l))) af) -> ad K 110 [a] U R
theorem dI.split {ks : List AV} {l : List Nd} {a : AV} {i : Nat} (h : dI true (ks.drop i) l) (ha : ks[i]? = some a) : ∃ l1 l2, l = l1 ++ l2 /\ dI false [a] l1 /\ dI true (ks.drop (i + 1)) l2 := by
 obtain ⟨aL, rfl⟩ := dP.1 ha
 rw [gX aL] at h
 generalize hb : true = b at h
 generalize hl : ks[i] :: ks.drop (i + 1) = la at h
 cases h with
 | mk _ _ => cases hb
 | nil => cases hl
 | cons h1 h2 => cases hl; exact ⟨_, _, rfl, h1, h2⟩
theorem dI.UZ {l : List Nd} (h : dI true [] l) : l = [] := by
 generalize hb : true = b at h
 generalize hl : ([] : List AV) = la at h
 cases h with
 | mk _ _ => cases hb
 | nil => rfl
 | cons _ _ => cases hl
theorem dI.le : ∀ {ks : List AV} {l : List Nd}, dI true ks l -> ks.length <= l.length
 | [], _, _ => by simp
 | a :: ks, l, h => by
   obtain ⟨l1, l2, rfl, h1, h2⟩ := dI.split (ks := a :: ks) (a := a) (i := 0) h rfl
   obtain ⟨x, r, e, _⟩ := h1.size
   have := dI.le (ks := ks) h2
   rw [e]; simp; omega
theorem BP {ay U : St} {R : cS -> St -> Prop} {ks : List AV} {l : List Nd} {b : Nat} {kind : Int} {text : aZ} {n m at_ : Int} {kv : AV} (hk : dI true ks l) (hl : l.length <= 100000) (SW : ∀ a l1, dI false [a] l1 -> l1.length <= l.length -> Cp a l1)
 (pY : ks = [] /\ kv = .ak \/ ∃ c, kv = .vec ks.length c ks) (hb : U.box b = some [.int .u8 kind, .str text, .int .i64 n, .int .i64 m, .int .i64 at_, .int .i64 0]) (hn : ay.live b = none) (hE : dr ay U)
 (h : ∀ af, dr ay af -> R (.ret (.vec (l.length + 1) .gC (bJ (node kind text n m at_ l)))) af) :
 (bD (some false) kv).wp K U (fun bw U =>
 cD 4 [.ms b 0 1 6 43, kv, bw, (AV.int .i64 0)] U fun lp v3 wJ B5 ca U =>
  (aq .lss (BT.mk false false false none) false ca B5).wp K U (fun cm U =>
  ao cm (
   (aH (some (87, 1)) none wJ ca).wp K U (fun ck U =>
   (av (some (false, 1)) ck U).wp K U (fun cn U =>
   ad K 110 [cn] U (ai (fun bY U =>
   (dc (some (43, 6)) true v3 bY U).wp K U (fun cR U =>
   (aq .add (BT.mk false false false none) true ca (AV.int .i64 1)).wp K U (fun v24 U =>
   lp cR wJ B5 v24 U) (aa R)) (aa R)) (aa R))) (aa R)) (aa R)) (
   (bD (some false) v3).wp K U (fun di U =>
   (aH (some (43, 6)) none v3 (AV.int .i64 0)).wp K U (fun v28 U =>
   (ag (some 5) v28).wp K U (fun cO U =>
   (aD (some (false, 1)) cO di U).wp K U (fun _ U =>
   al R v3 U) (aa R)) (aa R)) (aa R)) (aa R))) (aa R)) (aa R) := by
 have hlen : bD (some false) kv = .val (.int .i64 ks.length) := by
  rcases pY with ⟨rfl, rfl⟩ | ⟨c, rfl⟩ <;> rfl
 rw [hlen, aj]
 refine ⟨fun mm v3 bS bw ca af => ∃ (i b' : Nat) (acc rest : List Nd), mm = ks.length - i /\ i <= ks.length /\ v3 = .ms b' 0 (acc.length + 1) 6 43 /\ bS = kv /\ bw = .int .i64 ks.length /\ ca = .int .i64 (i : Nat) /\ l = acc ++ rest /\ dI true (ks.drop i) rest /\ af.box b' = some ([.int .u8 kind, .str text, .int .i64 n, .int .i64 m, .int .i64 at_, .int .i64 0] ++ bJ acc) /\ ay.live b' = none /\ dr ay af,
  ⟨_, 0, b, [], l, rfl, by omega, rfl, rfl, rfl, rfl, rfl, hk, by simpa [bJ] using hb, hn, hE⟩, ?_⟩
 rintro mm v3 bS bw ca bP ⟨i, b', acc, rest, rfl, hi, rfl, rfl, rfl, rfl, tI, Dy, eA, xR, Dt⟩
 have lS : ks.length <= l.length := hk.le
 simp only [bh, aj, aT]
 refine ⟨fun aL => ?_, fun gk => ?_⟩
 · have aL : i < ks.length := by omega
   rcases pY with ⟨rfl, _⟩ | ⟨c, rfl⟩
   · simp at aL
   rw [uM]
   refine ⟨by omega, ?_⟩
   have hd : ks.drop ((i : Int).toNat * 1) = ks[i] :: ks.drop (i + 1) := by rw [dR, Nat.mul_one]; exact gX aL
   rw [hd, mR, bq]
   obtain ⟨l1, l2, Bw, h1, h2⟩ := Dy.split (a := ks[i]) (by simp [aL])
   have aaQ : l1.length <= l.length := by rw [tI, Bw]; simp; omega
   refine SW _ l1 h1 aaQ bP _ fun bI e2 => ?_
   simp only [bg]
   have adb : acc.length + l1.length <= l.length := by rw [tI, Bw]; simp
   refine Cb (sz := 6) (m := l1.length) (l2 := bJ l1) (e2.bU eA) rfl ⟨by rw [fj]; omega, by simp [fj]; omega, by omega⟩ fun b2 hf => ?_
   rw [cI]
   refine ⟨bp (by omega) (by omega), ks.length - (i + 1), by omega, i + 1, b2, acc ++ l1, l2, rfl, aL, ?_, rfl, rfl, by simp, by rw [tI, Bw]; simp, h2, ?_, ?_, ?_⟩
   · simp; omega
   · rw [aW, oW]
     have : (acc.length + 1) * 6 = ([AV.int .u8 kind, .str text, .int .i64 n, .int .i64 m, .int .i64 at_, .int .i64 0] ++ bJ acc).length := by simp [fj]; omega
     rw [this, ql, qT]
   · have pD : ((bI.del b').live b2) = none := hf.1
     by_cases tF : b2 = b'
     · rw [tF]; exact xR
     · rw [jz, if_neg tF] at pD
       exact (Dt.trans e2).fresh pD
   · exact ((Dt.trans e2).del xR).new hf
 · have hi : i = ks.length := by omega
   subst hi
   rw [List.drop_length] at Dy
   have := Dy.UZ
   subst this
   rw [mB] at tI
   subst tI
   simp only [BK, aj]
   rw [wO]
   refine ⟨⟨by omega, by omega, rfl⟩, ?_⟩
   simp only [aR, aj, bW, show (0 : Int).toNat * 6 = 0 from rfl]
   rw [cT eA]
   refine ⟨⟨rfl, rfl, by simp⟩, ?_⟩
   refine ⟨_, _, lN.QL (bf), ?_⟩
   have := h ((bP.set b' (.box (az ([.int .u8 kind, .str text, .int .i64 n, .int .i64 m, .int .i64 at_, .int .i64 0] ++ bJ l) 5 (aC (.int .i64 ((l.length + 1 : Nat) : Int)))))).del b') ((Dt.set xR).del xR)
   have e : az ([.int .u8 kind, .str text, .int .i64 n, .int .i64 m, .int .i64 at_, .int .i64 0] ++ bJ l) 5 (aC (.int .i64 ((l.length + 1 : Nat) : Int))) = bJ (node kind text n m at_ l) := by
    simp [az, node, bJ, fO]
   rw [e] at this ⊢
   exact this
theorem DY {U : St} {R : cS -> St -> Prop} {p : AV} {ks : List AV} {l : List Nd} {kind : Int} {text : aZ} {n m at_ : Int} {kv : AV} (hp : Ptr U p (kT kind text n m at_ kv)) (hk : dI true ks l) (hl : l.length <= 100000) (SW : ∀ a l1, dI false [a] l1 -> l1.length <= l.length -> Cp a l1)
 (pY : ks = [] /\ kv = .ak \/ ∃ c, kv = .vec ks.length c ks) (h : ∀ af, dr U af -> R (.ret (.vec (l.length + 1) .gC (bJ (node kind text n m at_ l)))) af) : ad K 110 [p] U R := by
 refine Np ?_
 unfold No
 rcases hp with rfl | ⟨b, rfl, hb⟩
 · simp only [xk, aj, eH, eR]
   rw [Jg]
   refine ⟨by simp [kT], ?_⟩
   rw [ud]
   refine ⟨by omega, ?_⟩
   rw [c6 (o := 0) (s := 6) rfl]
   refine ⟨⟨rfl, by simp [kT], by simp [bB]⟩, ?_⟩
   rw [zp]
   refine ⟨rfl, fun b hf => ?_⟩
   simp only [kT, List.drop, mR, bq]
   exact BP hk hl SW pY (aW) hf.1 ((dr.refl U).new hf) h
 · simp only [bu, aj, aR, bW]
   rw [ow hb]
   refine ⟨by simp [kT], ?_⟩
   rw [ud]
   refine ⟨by omega, ?_⟩
   rw [c6 (o := 0) (s := 6) rfl]
   refine ⟨⟨rfl, by simp [kT], by simp [bB]⟩, ?_⟩
   rw [zp]
   refine ⟨rfl, fun b2 hf => ?_⟩
   rw [eG ((cE hf).bU hb)]
   simp only [kT, List.drop, bq]
   exact BP hk hl SW pY (aW) hf.1 ((dr.refl U).new hf) h
theorem DX : ∀ (N : Nat) (a : AV) (l : List Nd), dI false [a] l -> l.length <= N -> N <= 100000 -> Cp a l
 | 0, a, l, h, hl, _ => by
   obtain ⟨x, r, e, _⟩ := h.size
   rw [e] at hl; simp at hl
 | N + 1, a, l, h, hl, hN => by
   generalize hb : false = b at h
   generalize ha : [a] = la at h
   cases h with
   | nil => cases ha
   | cons _ _ => cases hb
   | mk h1 h2 =>
     cases ha
     rw [bT] at hl
     intro U R hR
     exact DY (.inl rfl) h1 (by omega) (fun a l1 hk Bu => DX N a l1 hk (by omega) (by omega)) h2 hR
end Go.Rip
namespace Go.Rip
open Go.Proofs Go.RowKit
theorem iJ.atN {v : AV} {l : List Nd} (h : iJ v l.length (bJ l)) {i : Nat} {x : Nd} (hx : l[i]? = some x) {e : Nat} : ∃ r, aH (some (e, 6)) none v (.int .i64 (i : Int)) = .cond (0 <= (i : Int) /\ (i : Int) < l.length) (.val (.cP (fO x ++ r))) := by
 obtain ⟨c, rfl, lD⟩ := h.at (sz := 6) (e := e) (dP.1 hx).1
 obtain ⟨r, hr⟩ := y9 hx
 exact ⟨r, by rw [lD, hr]⟩
section
variable {C : cV} {U : St} {K' : AV -> St -> Prop} {Kp : AV -> St -> Prop} {k : AV -> Prop} {v : AV} {l : List Nd} {i e : Nat} {x : Nd}
theorem ZH (h : iJ v l.length (bJ l)) (hx : l[i]? = some x) (hk : ∀ r, K' (.cP (fO x ++ r)) U) : (aH (some (e, 6)) none v (.int .i64 (i : Int))).wp C U K' Kp := by
 obtain ⟨r, hr⟩ := h.atN hx (e := e)
 rw [hr]
 have := (dP.1 hx).1
 exact ⟨by omega, hk r⟩
theorem YY (h : iJ v l.length (bJ l)) (hx : l[i]? = some x) (hk : ∀ r, k (.cP (fO x ++ r))) : ar C (aH (some (e, 6)) none v (.int .i64 (i : Int))) k := by
 obtain ⟨r, hr⟩ := h.atN hx (e := e)
 rw [hr]
 have := (dP.1 hx).1
 exact ⟨by omega, hk r⟩
end
theorem iJ.cN {v : AV} {n : Nat} {cs : List AV} (h : iJ v n cs) : v.cN = true /\ aC v = [v] := by
 rcases h with ⟨rfl, rfl, rfl⟩ | ⟨c, rfl⟩ <;> exact ⟨rfl, rfl⟩
theorem Rj {U : St} {R : cS -> St -> Prop} {v : AV} {l : List Nd} {n : Nat} {x : Nd} (hv : iJ v l.length (bJ l)) (hx : l[n]? = some x) (h64 : tz ((n : Int) + x.size))
 (h : ∀ bn be bt af, bn ≠ be -> bn ≠ bt -> be ≠ bt -> U.live bn = none -> U.live be = none -> U.live bt = none -> af.box bn = some [.int .i64 (n : Nat)] -> af.box be = some [.int .i64 ((n : Int) + x.size)] -> af.box bt = some [v] -> dr U af -> R (.ret (.func (.func 155) [] [.box bn 0, .box be 0, .box bt 0])) af) : ad K 81 [.agg [v], .int .i64 (n : Nat)] U R := by
 refine Sj ?_
 unfold Ul
 rw [jR rfl]
 intro bt LB
 rw [jR rfl]
 intro bn xK
 have mt : (U.new bt (.box (aC (.agg [v])))).box bt = some [v] := aW
 have e1 := cE LB (x := .box (aC (.agg [v])))
 have fr1 : U.live bt = none := LB.1
 generalize U.new bt (.box (aC (.agg [v]))) = bP at *
 have e2 := cE xK (x := .box (aC (.int .i64 (n : Nat))))
 have mn : (bP.new bn (.box (aC (.int .i64 (n : Nat))))).box bn = some [.int .i64 (n : Nat)] := aW
 have ntn := xK.da mt
 have fr2 : U.live bn = none := e1.fresh xK.1
 generalize bP.new bn (.box (aC (.int .i64 (n : Nat)))) = bI at *
 have YO := e2.bU mt
 simp only [jC mn, eR, fw, aR, aJ, bW, jC YO]
 refine YY hv hx fun r => ?_
 simp only [eH, aJ, fO, nT, List.drop, tj, fw, zc]
 refine ⟨h64, ?_⟩
 rw [du]
 intro be Du
 have e3 := cE Du (x := .box [.int .i64 0])
 have me : (bI.new be (.box [.int .i64 0])).box be = some [.int .i64 0] := aW
 have YS := Du.da mn
 have YU := Du.da YO
 have fr3 : U.live be = none := (e1.trans e2).fresh Du.1
 refine ⟨?_, ?_⟩
 · intro b hb
   simp only [cr, oJ, mB, fC, gg, List.not_mem_nil, or_false] at hb
   have : b = bn \/ b = bt := by
    rcases hb with h | h | h <;> simp_all
   rw [pe]
   rcases this with rfl | rfl
   · rw [if_neg YS]
   · rw [if_neg YU]
 · rw [cT me]
   refine ⟨⟨rfl, rfl, by simp⟩, al.mk (h bn be bt _ YS ntn.symm YU.symm fr2 fr3 fr1 ?_ ?_ ?_ ((e1.trans (e2.trans e3)).set fr3))⟩
   · rw [bK YS]; exact e3.bU mn
   · rw [bf]; rfl
   · rw [bK YU]; exact e3.bU YO
theorem F4 (l : List Nd) (en : Int) : ∀ (f p : Nat), (lX l en f p).length <= f
 | 0, _ => by simp [lX]
 | f + 1, p => by
   simp only [lX]
   split
   · split
     · have := F4 l en f (p + (Nd.size ‹_›).toNat)
       simp; omega
     · simp
   · simp
theorem Kz {v : AV} {l : List Nd} {n : Nat} {en : Int} {bn be bt : Nat} {U : St} {B : AV -> Qr -> St -> Prop} {Kn : St -> Prop} {Ke : Nat -> St -> Prop} {Kr : St -> Prop} {Kp : AV -> St -> Prop} (I : List Nat -> St -> Prop) (J : St -> Prop)
 (hv : iJ v l.length (bJ l)) (hn : n < l.length) (hlen : l.length <= 100000) (hen : en <= l.length)
 (QX : ∀ ks U, I ks U -> U.box bn = some [.int .i64 (n : Nat)] /\ U.box be = some [.int .i64 en] /\ U.box bt = some [v])
 (Tb : ∀ ks U o L L', I ks U -> U.loop o = some L -> I ks (U.set o (.loop L')))
 (pd : ∀ ks U o L, I ks U -> U.dB o -> I ks (U.new o (.loop L)))
 (hJ : ∀ U o L L', J U -> U.loop o = some L -> J (U.set o (.loop L')))
 (body : ∀ (ks : List Nat) (lW : Nat) (x : Nd) (bP : St) (o : Nat) (L1 : gN) (q : Qr), I ks bP -> l[lW]? = some x -> (lW : Int) < en -> 0 < x.size -> n < lW -> ks.length < l.length -> bP.loop o = some L1 ->
   (∀ bI, I (ks ++ [lW]) bI -> x.size <= 100000 -> bI.loop o = some L1 -> q.n bI) -> (∀ bI, J bI -> bI.loop o = some L1 -> q.r bI) -> B (.int .i64 (lW : Nat)) q bP)
 (fin : ∀ ks bP o L, ks = lX l en l.length (n + 1) -> I ks bP -> bP.loop o = some L -> Kn (bP.del o))
 (abH : ∀ bP o L, J bP -> bP.loop o = some L -> Kr (bP.del o))
 (h0 : I [] U) : yu K 1 (.func (.func 155) [] [.box bn 0, .box be 0, .box bt 0]) U (fun v q U => q.MC (fun U => B v q U) U) Kn Ke Kr Kp := by
 refine ⟨by kernel_rfl, fun o L ho Ly XO Y => ?_⟩
 have I1 := pd _ _ o L h0 ho
 have L8 := zN (U := U) (b := o) (L := L)
 generalize U.new o (.loop L) = bP at *
 refine Ou ?_
 unfold Ot
 rw [eG (QX _ _ I1).1, eR, bq, cI]
 refine ⟨bp (by omega) (by omega), ?_⟩
 refine ⟨fun m v0 v2 v3 v5 af => ∃ ks f p, m = l.length - p /\ v0 = .rO o /\ v2 = .box be 0 /\ v3 = .box bt 0 /\ v5 = .int .i64 (p : Nat) /\ n < p /\ p <= 300000 /\ l.length - p <= f /\ ks ++ lX l en f p = lX l en l.length (n + 1) /\ I ks af /\ ∃ L1, af.loop o = some L1 /\ L1.st .ready none = L /\ L1.state = .ready /\ L1.fH = none,
  ⟨_, [], l.length, n + 1, rfl, rfl, rfl, rfl, by simp, by omega, by omega, by omega, rfl, I1, L, L8, by cases L; simp_all [gN.st], Ly, XO⟩, ?_⟩
 clear I1 L8
 rintro m v0 v2 v3 v5 bI ⟨ks, f, p, rfl, rfl, rfl, rfl, rfl, hnp, hp3, hf, lS, I2, L1, rC, fN, FJ, DD⟩
 obtain ⟨k1, k2, k3⟩ := QX _ _ I2
 rw [eG k2, eR, bq]
 simp only [bh, aj, aS, aM]
 have stop : lX l en f p = [] -> al (MU o Kn Ke Kr Kp) (.aU []) bI := fun h => by
  rw [h, mB] at lS
  refine al.mk ⟨L1, rC, by rw [FJ]; simp, ?_⟩
  rw [DD]
  exact fin ks bI o L1 lS I2 rC
 by_cases aL : (p : Int) < en
 · have oR : p < l.length := by omega
   obtain ⟨x, hx⟩ : ∃ x, l[p]? = some x := ⟨l[p], by simp [oR]⟩
   cases f with
   | zero => omega
   | succ f =>
   have LM : lX l en (f + 1) p = if 0 < x.size then p :: lX l en f (p + x.size.toNat) else [] := by
    simp only [lX, hx, aL, true_and]
   simp only [aL, cj, dN, bG, aJ, aR, bW, jC k3, eR, fw, eN]
   refine YY hv hx fun r => ?_
   simp only [eH, aJ, eN, fO, nT, List.drop, tj, fw, eu, aF, if_true, aj, aT]
   refine ⟨fun hs => ?_, fun hs => ?_⟩
   · rw [if_pos hs] at LM
     simp only [lz, AP]
     refine Y _ _ _ L1 rfl rC fN ?_
     refine ⟨L1, rC, FJ, ?_⟩
     have I3 := Tb _ _ o L1 { L1 with state := .busy } I2 rC
     have qA : ks.length < l.length := by
      have := F4 l en l.length (n + 1)
      rw [<- lS, LM] at this
      simp at this; omega
     refine body ks p x _ o { L1 with state := .busy } _ I3 hx aL hs hnp qA ij (fun bQ I4 To Lx => ?_) fun bQ hJ3 Lx => ?_
     · refine ⟨_, Lx, ?_⟩
       have I5 := Tb _ _ o _ { L1 with state := .ready, fH := none } I4 Lx
       obtain ⟨j1, j2, j3⟩ := QX _ _ I5
       simp only [bg, cZ, aj, cC, aE, aR, bW]
       rw [eG j3, eR, bq]
       refine ZH hv hx fun r => ?_
       simp only [eH, aj, fO, nT, List.drop, mR, bq, cI]
       refine ⟨bp (by omega) (by omega), _, ?_, ks ++ [p], f, p + x.size.toNat, rfl, rfl, rfl, rfl, ?_, by omega, by omega, by omega, ?_, I5, _, ij, by rw [<- fN]; rfl, rfl, rfl⟩
       · omega
       · congr 1; omega
       · rw [<- lS, LM]; simp
     · refine ⟨_, Lx, ?_⟩
       simp only [bg, cZ, aj, dk, aK]
       refine al.mk ⟨_, ij, by simp, ?_⟩
       exact abH _ o _ (hJ _ o _ _ hJ3 Lx) ij
   · rw [if_neg hs] at LM
     exact stop LM
 · simp only [aL, cM, show (false == true) = false from rfl, bz, aF, bH, if_false, aj, aE]
   refine stop ?_
   cases f with
   | zero => rfl
   | succ f =>
     simp only [lX]
     split
     · rw [if_neg (fun h => aL h.1)]
     · rfl
end Go.Rip
namespace Go.Rip
open Go.Proofs Go.RowKit
def oL (ay U : St) (v : AV) (es : List Int) : Prop := (es = [] /\ v = .ak) \/ ∃ b ko, v = .ms b 0 es.length 1 3 /\ U.box b = some (es.map (.int .i64) ++ ko) /\ ay.live b = none
section
variable {ay U : St} {R : cS -> St -> Prop} {K' : AV -> St -> Prop} {Kp : AV -> St -> Prop}
theorem TA {b : Nat} {n a : Int} (hb : U.box b = some [.int .i64 n]) (h : R (.ret (.bool (decide (a <= n)))) U) : ad K 133 [.int .i64 a, .box b 0] U R := by
 refine NO ?_
 unfold NN
 rw [eG hb, eR, bq]
 simp only [iW, aj]
 exact al.mk h
theorem abq {b : Nat} {L : List AV} {es : List Int} {ko : List AV} (h : U.box b = some L) (hL : L = es.map (.int .i64) ++ ko) {i n : Nat} (hi : i < es.length) (hn : i < n) (hk : K' (.int .i64 es[i]) U) :
 (aH (some (3, 1)) none (.ms b 0 n 1 3) (.int .i64 (i : Nat))).wp K U (fun v U => (av (some (false, 1)) v U).wp K U K' Kp) Kp := by
 rw [wO]
 refine ⟨⟨by omega, by omega, rfl⟩, ?_⟩
 rw [eG h]
 have : L.drop (0 + (i : Int).toNat * 1) = .int .i64 es[i] :: ((es.map (AV.int .i64)).drop (i + 1) ++ ko) := by
  rw [hL, dR, Nat.mul_one, bW, List.drop_append_of_le_length (by simp; omega), gX (by simpa using hi)]
  simp
 rw [this, bq]
 exact hk
theorem DK {b bn : Nat} {es : List Int} {ko : List AV} {n : Int} (hb : U.box b = some (es.map (.int .i64) ++ ko)) (hn : U.box bn = some [.int .i64 n]) (hl : es.length <= 100000)
 (h : (∃ k, k < es.length /\ (es.take k).all (fun a => decide (n < a)) = true /\ (∃ hk : k < es.length, es[k] <= n) /\ R (.ret (.int .i64 (k : Nat))) U) \/ (es.all (fun a => decide (n < a)) = true /\ R (.ret (.int .i64 (-1))) U)) :
 ad K 210 [.ms b 0 es.length 1 3, .func (.func 133) [] [.box bn 0]] U R := by
 refine Eb ?_
 unfold GH
 simp only [BK, aj]
 refine ⟨fun m v0 v1 v7 v8 af => ∃ i : Nat, m = es.length - i /\ i <= es.length /\ v0 = .ms b 0 es.length 1 3 /\ v1 = .func (.func 133) [] [.box bn 0] /\ v7 = .int .i64 es.length /\ v8 = .int .i64 i /\ af = U /\ (es.take i).all (fun a => decide (n < a)) = true, ⟨_, 0, rfl, by omega, rfl, rfl, rfl, rfl, rfl, by simp⟩, ?_⟩
 rintro m v0 v1 v7 v8 af ⟨i, rfl, hi, rfl, rfl, rfl, rfl, rfl, cq⟩
 simp only [bh, aj, aT]
 have Ib : ∀ (k : Nat) (hk : k < es.length), (es.take i).all (fun a => decide (n < a)) = true -> k < i -> n < es[k] := fun k hk ha Il => by
  rw [eY] at ha
  have : es[k] ∈ es.take i := by
   rw [List.mem_iff_getElem]
   exact ⟨k, by simp; omega, by simp⟩
  simpa using ha _ this
 refine ⟨fun aL => ?_, fun gk => ?_⟩
 · have aL : i < es.length := by omega
   refine abq hb rfl aL aL ?_
   simp only [lz, show hU K.P 133 = true by kernel_rfl, if_true, wS, oJ, nT]
   refine TA hn ?_
   simp only [bg, aT]
   refine ⟨fun hle => ?_, fun Bo => ?_⟩
   · rcases h with ⟨k, hk, oA, ⟨_, fY⟩, hR⟩ | ⟨hA, _⟩
     · have : k = i := by
        rcases Nat.lt_trichotomy k i with h | h | h
        · have := Ib k hk cq h; omega
        · exact h
        · rw [eY] at oA
          have hm : es[i] ∈ es.take k := by
           rw [List.mem_iff_getElem]
           exact ⟨i, by simp; omega, by simp⟩
          have := oA _ hm
          simp at this; omega
       subst this
       exact al.mk hR
     · rw [eY] at hA
       have := hA es[i] (qU aL)
       simp at this; omega
   · rw [cI]
     refine ⟨bp (by omega) (by omega), es.length - (i + 1), by omega, i + 1, rfl, by omega, rfl, rfl, rfl, by simp, rfl, ?_⟩
     rw [qS, jQ aL, List.all_append, cq]
     simp; omega
 · have hi : i = es.length := by omega
   subst hi
   rw [ql] at cq
   rcases h with ⟨k, hk, oA, ⟨_, fY⟩, hR⟩ | ⟨_, hR⟩
   · rw [eY] at cq
     have := cq es[k] (qU hk)
     simp at this; omega
   · exact al.mk hR
theorem Dq : ∀ (es : List Int) (n : Int), (∃ k, ∃ hk : k < es.length, (es.take k).all (fun a => decide (n < a)) = true /\ es[k] <= n) \/ es.all (fun a => decide (n < a)) = true
 | [], n => .inr rfl
 | a :: es, n => by
   by_cases ha : n < a
   · rcases Dq es n with ⟨k, hk, h1, h2⟩ | h
     · exact .inl ⟨k + 1, by simp; omega, by simp [ha, h1], by simpa using h2⟩
     · exact .inr (by simp [ha, h])
   · exact .inl ⟨0, by simp, by simp, by simp; omega⟩
theorem Li {v : AV} {bn : Nat} {es : List Int} {n : Int} (hv : oL ay U v es) (hn : U.box bn = some [.int .i64 n]) (hl : es.length <= 100000) (hE : dr ay U) (xK : ∀ b, ay.live b = none -> v = .ms b 0 es.length 1 3 -> bn ≠ b)
 (h : ∀ af v', oL ay af v' (es.filter (n < ·)) -> dr ay af -> (∀ b x, (∀ k, v ≠ .ms b 0 k 1 3) -> U.box b = some x -> af.box b = some x) -> (∀ b k, v' = .ms b 0 k 1 3 -> v = .ms b 0 es.length 1 3) -> R (.ret v') af) : ad K 132 [v, .func (.func 133) [] [.box bn 0]] U R := by
 refine NM ?_
 unfold NL
 rcases hv with ⟨rfl, rfl⟩ | ⟨b, ko, rfl, hb, rD⟩
 ·
  have abI : ad K 210 [.ak, .func (.func 133) [] [.box bn 0]] U (ai (fun v10 U =>
   (aq .eql (BT.mk false false false none) true v10 (AV.int .i64 (-1))).wp K U (fun v12 U => ao v12 (al R .ak U) False) (aa R)) (aa R)) := by
   refine Eb ?_
   unfold GH
   simp only [len_nil, aj]
   refine ⟨fun m v0 v1 v7 v8 af => v7 = .int .i64 0 /\ v8 = .int .i64 0 /\ af = U, ⟨0, rfl, rfl, rfl⟩, ?_⟩
   rintro m v0 v1 v7 v8 af ⟨rfl, rfl, rfl⟩
   simp only [bh, aj, show decide ((0 : Int) < 0) = false from rfl, aE]
   refine al.mk ?_
   simp only [bg, aV, aj, cj, aK]
   exact al.mk (h af .ak (.inl ⟨rfl, rfl⟩) hE (fun _ _ _ h => h) (fun _ _ e => by cases e))
  refine abI.mono fun r af hr => ?_
  cases r with
  | panic x => exact hr
  | ret x =>
    simp only [bg] at hr ⊢
    refine aw.wp_mono (fun v U hv => ?_) _ hr
    cases v <;> simp only [ao] at hv ⊢
    exact ⟨hv.1, fun e => (hv.2 e).elim⟩
 · have tF : bn ≠ b := xK b rD rfl
   rcases Dq es n with ⟨k, hk, oA, fY⟩ | cq
   · refine DK hb hn hl (.inl ⟨k, hk, oA, ⟨hk, fY⟩, ?_⟩)
     have hkn : ¬ ((k : Nat) : Int) = -1 := by omega
     simp only [bg, aV, aj, hkn, cM, aE, cI]
     refine ⟨bp (by omega) (by omega), ?_⟩
     have Bl : (es.take (k + 1)).filter (n < ·) = es.take k := by
      rw [qS, jQ hk, List.filter_append]
      have h1 : (es.take k).filter (n < ·) = es.take k := by
       rw [List.filter_eq_self]
       intro a ha
       rw [eY] at oA
       exact oA a ha
      rw [h1]
      have : ¬ n < es[k] := by omega
      simp [this]
     refine ⟨fun m v0 v1 v5 v6 af => ∃ (i j : Nat) (arr : List AV), m = es.length - j /\ v0 = .ms b 0 es.length 1 3 /\ v1 = .func (.func 133) [] [.box bn 0] /\ v5 = .int .i64 (i : Nat) /\ v6 = .int .i64 (j : Nat) /\ j <= es.length /\ i < j /\ af.box b = some arr /\ arr.take i = ((es.take j).filter (n < ·)).map (.int .i64) /\ i = ((es.take j).filter (n < ·)).length /\ arr.drop j = (es.drop j).map (.int .i64) ++ ko /\ arr.length = es.length + ko.length /\ (∀ c, c ≠ b -> af.live c = U.live c),
      ⟨_, k, k + 1, es.map (.int .i64) ++ ko, rfl, rfl, rfl, rfl, by simp, by omega, by omega, hb, ?_, ?_, ?_, by simp, fun _ _ => rfl⟩, ?_⟩
     · rw [Bl, List.take_append_of_le_length (by simp; omega), <- List.map_take]
     · rw [Bl]; simp; omega
     · rw [List.drop_append_of_le_length (by simp; omega), <- List.map_drop]
     · rintro m v0 v1 v5 v6 af ⟨i, j, arr, rfl, rfl, rfl, rfl, rfl, hj, dt, eA, SX, XQ, ha3, ha4, pZ⟩
       simp only [BK, aj, bh, aT]
       refine ⟨fun aL => ?_, fun gk => ?_⟩
       · have aL : j < es.length := by omega
         intro jj sU
         have xR : af.box bn = some [.int .i64 n] := by rw [fh (pZ bn tF)]; exact hn
         rw [wO]
         refine ⟨⟨by omega, by omega, rfl⟩, ?_⟩
         rw [eG eA]
         obtain ⟨rr, hd⟩ : ∃ rr, arr.drop (0 + (j : Int).toNat * 1) = .int .i64 es[j] :: rr := by
          rw [dR, Nat.mul_one, bW, ha3, gX aL, et]
          exact ⟨_, rfl⟩
         rw [hd, bq]
         simp only [lz, show hU K.P 133 = true by kernel_rfl, if_true, wS, oJ, nT]
         refine TA xR ?_
         have nK : es.take (j + 1) = es.take j ++ [es[j]] := by rw [qS, jQ aL]; rfl
         have zE : arr.drop (j + 1) = (es.drop (j + 1)).map (.int .i64) ++ ko := by
          rw [<- List.drop_drop, ha3, gX aL, et]; rfl
         simp only [bg, cZ, aj]
         by_cases hle : es[j] <= n
         · simp only [hle, cj, cC, aE]
           refine sU _ _ _ _ _ ?_
           simp only [cI]
           refine ⟨bp (by omega) (by omega), es.length - (j + 1), by omega, i, j + 1, arr, rfl, rfl, rfl, rfl, by simp, by omega, by omega, eA, ?_, ?_, zE, ha4, pZ⟩
           · rw [nK, List.filter_append, SX]
             have : ¬ n < es[j] := by omega
             simp [this]
           · rw [nK, List.filter_append]
             have : ¬ n < es[j] := by omega
             simp only [List.filter_cons, this, cM, bH, if_false, List.filter_nil, mB]
             exact XQ
         · simp only [hle, cM, dk, aK]
           rw [wO]
           refine ⟨⟨by omega, by omega, rfl⟩, ?_⟩
           rw [cT eA]
           refine ⟨⟨rfl, rfl, by simp; omega⟩, ?_⟩
           rw [cI]
           refine ⟨bp (by omega) (by omega), ?_⟩
           refine sU _ _ _ _ _ ?_
           simp only [cI]
           have xV : az arr (0 + (i : Int).toNat * 1) (aC (.int .i64 es[j])) = arr.take i ++ [.int .i64 es[j]] ++ arr.drop (i + 1) := by
            simp [az]
           have FC : (arr.take i).length = i := by simp; omega
           refine ⟨bp (by omega) (by omega), es.length - (j + 1), by omega, i + 1, j + 1, _, rfl, rfl, rfl, by simp, by simp, by omega, by omega, bf, ?_, ?_, ?_, ?_, fun c hc => by rw [gV, if_neg hc]; exact pZ c hc⟩
           · rw [xV, List.take_append_of_le_length (by simp; omega), uD (by simp; omega), SX, nK, List.filter_append]
             have : n < es[j] := by omega
             simp [this]
           · rw [nK, List.filter_append]
             have : n < es[j] := by omega
             simp only [List.filter_cons, this, cj, if_true, List.filter_nil, eQ, lk, qm]
             omega
           · rw [xV, <- zE]
             rw [List.drop_append, List.drop_eq_nil_of_le (by simp; omega), oJ, List.drop_drop]
             congr 1
             simp
             omega
           · rw [xV]; simp; omega
       · have hje : j = es.length := by omega
         subst hje
         rw [ql] at SX XQ
         simp only [fW, dS, wp_cond, aj]
         refine ⟨⟨by omega, by omega, by omega, by omega, trivial⟩, ?_⟩
         simp only [AZ, eA, wp_cond, k0]
         refine ⟨⟨trivial, by simp; omega⟩, ⟨by omega, by omega, by omega, by simp, trivial⟩, ?_⟩
         refine al.mk (h _ _ (.inr ⟨b, (az arr (0 + (i : Int).toNat * 1) (bB ((es.length : Int).toNat - (i : Int).toNat) [.int .i64 0])).drop i, ?_, ?_, rD⟩) ?_ ?_ ?_)
         · simp [XQ]
         · rw [bf]
           congr 1
           have hz : (bB (es.length - i) [AV.int .i64 0]).length = es.length - i := by simp [kL]
           simp only [dR, Nat.mul_one, bW]
           conv => lhs; rw [<- List.take_append_drop i (az arr i _)]
           congr 1
           simp only [az, qT]
           rw [List.take_append_of_le_length (by simp; omega), uD (by simp; omega)]
           exact SX
         · refine dr.set (fun c x e => ?_) rD
           by_cases hc : c = b
           · subst hc; rw [rD] at e; cases e
           · rw [pZ c hc]; exact hE c x e
         · intro c x hc hx
           have hcb : c ≠ b := fun e => hc es.length (by rw [e])
           rw [bK hcb, fh (pZ c hcb)]; exact hx
         · intro c k e
           simp only [AV.ms.injEq] at e
           rw [e.1]
   · refine DK hb hn hl (.inr ⟨cq, ?_⟩)
     simp only [bg, aV, aj, cj, aK]
     have hf : es.filter (n < ·) = es := by
      rw [List.filter_eq_self]
      intro a ha
      rw [eY] at cq
      exact cq a ha
     exact al.mk (h U _ (by rw [hf]; exact .inr ⟨b, ko, rfl, hb, rD⟩) hE (fun _ _ _ h => h) (fun b' k e => by cases e; rfl))
end
end Go.Rip
namespace Go.Rip
open Go.Proofs Go.RowKit
section
variable {ay U : St} {R : cS -> St -> Prop} {K' : AV -> St -> Prop} {Kp : AV -> St -> Prop} {v : AV} {es : List Int}
theorem QC (h : oL ay U v es) : bD (some false) v = .val (.int .i64 es.length) := by
 rcases h with ⟨rfl, rfl⟩ | ⟨b, ko, rfl, _, _⟩ <;> rfl
theorem QB {bx : Nat} {a : Int} (hv : oL ay U v es) (hy : U.box bx = some [.int .i64 a]) (E : dr ay U) (hl : es.length <= 100000) (h : ∀ af v', oL ay af v' (es ++ [a]) -> dr ay af -> K' v' af) :
 (dc (some (3, 1)) true v (.ms bx 0 1 1 3) U).wp K U K' Kp := by
 have CL : qp U (.ms bx 0 1 1 3) = some (1, [.int .i64 a]) := by simp [qp, hy]
 rcases hv with ⟨rfl, rfl⟩ | ⟨b, ko, rfl, hb, rD⟩
 · simp only [dc, CL, wp_cond]
   refine ⟨rfl, by omega, fun b hf => ?_⟩
   exact h _ _ (.inr ⟨b, [], rfl, by rw [show U.rQ none = U from rfl]; exact aW, E.fresh hf.1⟩) (E.new hf)
 · refine Cb hb CL ⟨rfl, by simp, by omega⟩ fun b' hf => ?_
   refine h _ _ (.inr ⟨b', [], by simp, ?_, ?_⟩) ((E.del rD).new hf)
   · rw [aW]; simp
   · have hd := hf.1
     by_cases e : b' = b
     · rw [e]; exact rD
     · rw [jz, if_neg e] at hd; exact E.fresh hd
end
theorem JJ {v : AV} {l : List Nd} (hv : iJ v l.length (bJ l)) (hc : closed v = true) (hl : l.length <= 100000) (h0 : l ≠ []) (hs : ∀ x ∈ l, 0 <= x.size /\ x.size <= 100000) (tJ : mF l <= l.length) : Pure K 69 [.agg [v]] (.bool (lR l)) := by
 refine Pure.of (by simp [cL, closed, hc]) rfl (fun U => rfl) fun R hR => ?_
 refine Sa ?_
 unfold Uc
 rw [jR rfl]
 intro b1 hY
 have m1 : ((bX ⟨.e, 0⟩).new b1 (.box (aC (.agg [v])))).box b1 = some [v] := aW
 generalize (bX _).new b1 _ = ay at *
 clear hY
 simp only [aR, aj, bW]
 rw [eG m1, eR, bq, hv.len, aj]
 refine ⟨fun m v1 v2 v3 v8 v9 v10 af => ∃ (i : Nat) (es : List Int), m = l.length - i /\ v1 = .box b1 0 /\ v2 = .bool false /\ v8 = v /\ v9 = .int .i64 l.length /\ v10 = .int .i64 (i : Nat) /\ i <= l.length /\ oL ay af v3 es /\ es.length <= i /\ jE (l.drop i) i es = jE l 0 [] /\ dr ay af,
  ⟨_, 0, [], rfl, rfl, rfl, rfl, rfl, rfl, by omega, .inl ⟨rfl, rfl⟩, by simp, rfl, dr.refl _⟩, ?_⟩
 rintro m v1 v2 v3 v8 v9 v10 bP ⟨i, es, rfl, rfl, rfl, rfl, rfl, rfl, hi, xM, hel, hg, E1⟩
 simp only [bh, aj, aT]
 refine ⟨fun aL => ?_, fun gk => ?_⟩
 · have aL : i < l.length := by omega
   obtain ⟨x, hx⟩ : ∃ x, l[i]? = some x := ⟨l[i], by simp [aL]⟩
   have rX : l.drop i = x :: l.drop (i + 1) := by
    rw [gX aL]
    have := (dP.1 hx).2
    rw [this]
   rw [rX, jE] at hg
   refine ZH hv hx fun r => ?_
   rw [Jg]
   refine ⟨by simp [fO], ?_⟩
   have QV : (fO x ++ r).take 6 = fO x := by simp [fO]
   rw [QV, du]
   intro b4 wW
   rw [du]
   intro b5 uY
   have m4 : (bP.new b4 (.box [.int .i64 0])).box b4 = some [.int .i64 0] := aW
   have n45 := uY.da m4
   have f4 := E1.fresh wW.1
   have E2 := E1.new wW (x := .box [.int .i64 0])
   have Q0 : oL ay (bP.new b4 (.box [.int .i64 0])) v3 es /\ (∀ b, v3 = .ms b 0 es.length 1 3 -> b4 ≠ b) := by
    rcases xM with h | ⟨b, ko, rfl, h2, h3⟩
    · exact ⟨.inl h, fun b e => by rw [h.2] at e; cases e⟩
    · have := wW.da h2
      exact ⟨.inr ⟨b, ko, rfl, by rw [og this]; exact h2, h3⟩, fun b' e => by cases e; exact this.symm⟩
   obtain ⟨Q0, Q4⟩ := Q0
   clear xM
   generalize bP.new b4 (.box [.int .i64 0]) = bI at *
   have m5 : (bI.new b5 (.box [AV.int .u8 0, AV.str [], AV.int .i64 0, AV.int .i64 0, AV.int .i64 0, AV.int .i64 0])).box b5 = some [AV.int .u8 0, AV.str [], AV.int .i64 0, AV.int .i64 0, AV.int .i64 0, AV.int .i64 0] := aW
   have f5 := E2.fresh uY.1
   have E3 := E2.new uY (x := .box [AV.int .u8 0, AV.str [], AV.int .i64 0, AV.int .i64 0, AV.int .i64 0, AV.int .i64 0])
   have m4' := (cE uY (x := .box [AV.int .u8 0, AV.str [], AV.int .i64 0, AV.int .i64 0, AV.int .i64 0, AV.int .i64 0])).bU m4
   have Q1 : oL ay (bI.new b5 (.box [AV.int .u8 0, AV.str [], AV.int .i64 0, AV.int .i64 0, AV.int .i64 0, AV.int .i64 0])) v3 es /\ (∀ b, v3 = .ms b 0 es.length 1 3 -> b5 ≠ b) := by
    rcases Q0 with h | ⟨b, ko, rfl, h2, h3⟩
    · exact ⟨.inl h, fun b e => by rw [h.2] at e; cases e⟩
    · have := uY.da h2
      exact ⟨.inr ⟨b, ko, rfl, by rw [og this]; exact h2, h3⟩, fun b' e => by cases e; exact this.symm⟩
   obtain ⟨Q1, Yl⟩ := Q1
   generalize bI.new b5 (.box [AV.int .u8 0, AV.str [], AV.int .i64 0, AV.int .i64 0, AV.int .i64 0, AV.int .i64 0]) = bQ at *
   rw [cT m4']
   refine ⟨⟨rfl, rfl, by simp⟩, ?_⟩
   rw [cT (show (bQ.set b4 _).box b5 = some _ by rw [bK n45.symm]; exact m5)]
   refine ⟨⟨rfl, rfl, by simp [fO]⟩, ?_⟩
   have E4 := (E3.set f4 (x := .box (az [.int .i64 0] 0 (aC (.int .i64 (i : Nat)))))).set f5 (x := .box (az [AV.int .u8 0, AV.str [], AV.int .i64 0, AV.int .i64 0, AV.int .i64 0, AV.int .i64 0] 0 (aC (.agg (fO x)))))
   have g4 : ((bQ.set b4 (.box (az [.int .i64 0] 0 (aC (.int .i64 (i : Nat)))))).set b5 (.box (az [AV.int .u8 0, AV.str [], AV.int .i64 0, AV.int .i64 0, AV.int .i64 0, AV.int .i64 0] 0 (aC (.agg (fO x)))))).box b4 = some [.int .i64 (i : Nat)] := by
    rw [bK n45, bf]; rfl
   have g5 : ((bQ.set b4 (.box (az [.int .i64 0] 0 (aC (.int .i64 (i : Nat)))))).set b5 (.box (az [AV.int .u8 0, AV.str [], AV.int .i64 0, AV.int .i64 0, AV.int .i64 0, AV.int .i64 0] 0 (aC (.agg (fO x)))))).box b5 = some (fO x) := by
    rw [bf]; rfl
   have X3 : oL ay ((bQ.set b4 (.box (az [.int .i64 0] 0 (aC (.int .i64 (i : Nat)))))).set b5 (.box (az [AV.int .u8 0, AV.str [], AV.int .i64 0, AV.int .i64 0, AV.int .i64 0, AV.int .i64 0] 0 (aC (.agg (fO x)))))) v3 es := by
    rcases Q1 with h | ⟨b, ko, rfl, h2, h3⟩
    · exact .inl h
    · exact .inr ⟨b, ko, rfl, by rw [bK (Yl b rfl).symm, bK (Q4 b rfl).symm]; exact h2, h3⟩
   generalize (bQ.set b4 (.box (az [.int .i64 0] 0 (aC (.int .i64 (i : Nat)))))).set b5 (.box (az [AV.int .u8 0, AV.str [], AV.int .i64 0, AV.int .i64 0, AV.int .i64 0, AV.int .i64 0] 0 (aC (.agg (fO x))))) = cz at *
   refine Li X3 g4 (by omega) E4 (fun b _ e => Q4 b e) fun dm v' X4 E5 hk5 _ => ?_
   have Bt : ∀ b y, b4 = b \/ b5 = b -> cz.box b = some y -> dm.box b = some y := fun b y hb hy => by
    refine hk5 b y (fun k e => ?_) hy
    rcases X3 with h | ⟨b', ko, rfl, h2, h3⟩
    · rw [h.2] at e; cases e
    · simp only [AV.ms.injEq] at e
      rcases hb with rfl | rfl
      · exact Q4 b' rfl e.1.symm
      · exact Yl b' rfl e.1.symm
   have g4' := Bt b4 _ (.inl rfl) g4
   have g5' := Bt b5 _ (.inr rfl) g5
   simp only [bg, QC X4, aj, eu, aT]
   have pX : (es.filter ((i : Int) < ·)).length <= es.length := List.length_filter_le _ _
   refine ⟨fun Bo => ?_, fun hle => ?_⟩
   · rw [if_pos (by omega)] at hg
     refine al.mk ?_
     have : lR l = true := by simp [lR, <- hg]
     rw [this] at hR
     exact hR _
   · rw [if_neg (by omega)] at hg
     have Tr := hs x (gK hx)
     rw [eG g4', eR, bq]
     simp only [aR, aj, bW]
     rw [eG g5']
     simp only [fO, List.drop, bq, cI]
     refine ⟨bp (by omega) (by omega), ?_⟩
     rw [ud]
     refine ⟨by omega, ?_⟩
     rw [c6 (o := 0) (s := 1) rfl]
     refine ⟨⟨rfl, rfl, by simp [bB]⟩, ?_⟩
     rw [zp]
     refine ⟨rfl, fun bx nx => ?_⟩
     have abP : oL ay (dm.new bx (.box (az (bB 1 [AV.int .i64 0]) 0 (aC (.int .i64 ((i : Int) + x.size)))))) v' (es.filter ((i : Int) < ·)) := by
      rcases X4 with h | ⟨b', ko, rfl, h2, h3⟩
      · exact .inl h
      · exact .inr ⟨b', ko, rfl, by rw [og (nx.da h2)]; exact h2, h3⟩
     refine QB abP (by rw [aW]; rfl) (E5.new nx) (by omega) fun mT v7 abQ E7 => ?_
     refine ⟨bp (by omega) (by omega), l.length - (i + 1), by omega, i + 1, _, rfl, rfl, rfl, rfl, rfl, by simp, by omega, abQ, by simp; omega, hg, E7⟩
 · have hi : i = l.length := by omega
   subst hi
   rw [List.drop_length] at hg
   have Bm : jE l 0 [] = false := hg.symm
   have Bo : lR l = decide (24 < (lX l (mF l) l.length 1).length) := by simp [lR, Bm]
   rw [Bo] at hR
   rw [du]
   intro b6 Bh
   have m6 : (bP.new b6 (.box [.int .i64 0])).box b6 = some [.int .i64 0] := aW
   have MA := (E1.new Bh (x := .box [.int .i64 0])).bU m1
   have n16 := Bh.da (E1.bU m1)
   generalize bP.new b6 (.box [.int .i64 0]) = bI at *
   rw [cT m6]
   refine ⟨⟨rfl, rfl, by simp⟩, ?_⟩
   have TC : (bI.set b6 (.box (az [.int .i64 0] 0 (aC (.int .i64 0))))).box b6 = some [.int .i64 (([] : List Nat).length : Nat)] := by rw [bf]; rfl
   have aci : (bI.set b6 (.box (az [.int .i64 0] 0 (aC (.int .i64 0))))).box b1 = some [v8] := by rw [bK n16]; exact MA
   generalize bI.set b6 (.box (az [.int .i64 0] 0 (aC (.int .i64 0)))) = bQ at *
   rw [ow aci]
   refine ⟨by simp, ?_⟩
   refine gz [v8] (by simp [pT, hv.cN, az]) ?_
   cases l with
   | nil => exact absurd rfl h0
   | cons x0 l =>
   have hx0 := hs x0 (by simp)
   refine Rj (n := 0) (x := x0) hv rfl (bp (by simp; omega) (by simp; omega)) fun bn be bt cz d1 d2 d3 f1 f2 f3 k1 k2 k3 e4 => ?_
   have m6n := e4.bU TC
   have en : (((0 : Nat) : Int) + x0.size) = mF (x0 :: l) := by simp [mF]
   rw [en] at k2
   have nn : bn ≠ b6 := fun e => by rw [e] at f1; exact dJ TC f1
   have ne : be ≠ b6 := fun e => by rw [e] at f2; exact dJ TC f2
   have nt : bt ≠ b6 := fun e => by rw [e] at f3; exact dJ TC f3
   refine Kz (fun ks U => U.box b6 = some [.int .i64 (ks.length : Nat)] /\ U.box bn = some [.int .i64 ((0 : Nat) : Int)] /\ U.box be = some [.int .i64 (mF (x0 :: l))] /\ U.box bt = some [v8] /\ True) (fun _ => False) hv (by simp) (by omega) tJ
    (fun ks U h => h.2.imp id fun h => h.imp id fun h => h.1) (fun ks U o L L' h hL => ?_) (fun ks U o L h ho => ?_) (fun _ _ _ _ h => h.elim) (fun ks lW x dm o L1 q hI hx aL uu hnk qA hL hn hr => ?_) (fun ks dm o L lS hI hL => ?_) (fun _ _ _ h => h.elim) ⟨m6n, k1, k2, k3, trivial⟩
   · exact ⟨by rw [bK (fX h.1 hL)]; exact h.1, by rw [bK (fX h.2.1 hL)]; exact h.2.1, by rw [bK (fX h.2.2.1 hL)]; exact h.2.2.1, by rw [bK (fX h.2.2.2.1 hL)]; exact h.2.2.2.1, h.2.2.2.2⟩
   · have e := cE ho (x := .loop L)
     exact ⟨e.bU h.1, e.bU h.2.1, e.bU h.2.2.1, e.bU h.2.2.2.1, h.2.2.2.2⟩
   · obtain ⟨i1, i2, i3, i4, i5⟩ := hI
     rw [eG i1, eR, bq, cI]
     refine ⟨bp (by omega) (by omega), ?_⟩
     rw [cT i1]
     refine ⟨⟨rfl, rfl, by simp⟩, ?_⟩
     refine hn _ ⟨by rw [bf]; simp [az], by rw [bK nn]; exact i2, by rw [bK ne]; exact i3, by rw [bK nt]; exact i4, trivial⟩ (hs x (gK hx)).2 (by rw [lZ]; exact hL; rw [gV, if_neg (fX i1 hL).symm])
   · obtain ⟨i1, i2, i3, i4, i5⟩ := hI
     have i1' : (dm.del o).box b6 = some [.int .i64 (ks.length : Nat)] := by rw [oe (fX i1 hL)]; exact i1
     show (av (some (false, 1)) (.box b6 0) (dm.del o)).wp K (dm.del o) _ _
     rw [eG i1', eR, bq]
     simp only [eu, aj]
     subst lS
     refine al.mk ?_
     have := hR (dm.del o)
     have e : decide ((24 : Int) < ((lX (x0 :: l) (mF (x0 :: l)) (x0 :: l).length (0 + 1)).length : Nat)) = decide (24 < (lX (x0 :: l) (mF (x0 :: l)) (x0 :: l).length 1).length) := by
      rw [nq]; simp only [ej, bW]; omega
     rw [e]; exact this
end Go.Rip
namespace Go.Rip
open Go.Proofs Go.RowKit
theorem nW {U : St} {a b : Nat} {l : List AV} (h : b ≠ a) : (U.cw a l).live b = U.live b := by
 simp [St.cw, St.set, h]
theorem gj.cw {r : Nat} {U af : St} {b : Nat} {l : List AV} (h : gj r U af) (n : U.live b = none) : gj r U (af.cw b l) := fun c y m e => by
 by_cases hc : c = b
 · subst hc; rw [n] at e; cases e
 · rw [nW hc]; exact h c y m e
theorem dI.scalar {a : AV} {ns : List Nd} (hk : dI false [a] ns) : a.scalar = true := by
 generalize hb : false = b at hk
 generalize hl : [a] = la at hk
 cases hk with
 | mk _ _ => cases hl; rfl
 | nil => cases hl
 | cons _ _ => cases hb
section
variable {X : Rx} {r i : Nat} {U : St} {R : cS -> St -> Prop}
theorem B4 (hr : U.box r = some (rd X i)) (hi : i <= X.L.length) (h1 : ∀ ns j a af, gB X.L X.E (fuel X.L) i = .ok ns j -> j <= X.L.length -> i < j -> dI false [a] ns -> eg r (rd X j) U af -> R (.ret (.aU [a, .int .i64 0, .bool true])) af)
 (h2 : ∀ j af, gB X.L X.E (fuel X.L) i = .bad j -> i <= j -> j <= X.L.length -> eg r (rd X j) U af -> R (.ret (.aU [.bj, .int .i64 (bM X.L X.E j), .bool false])) af) : ad K 54 [.box r 0, .func (.func 55) [.box r 0] []] U R := by
 refine AJ _ _ _ _ _ _ (by kernel_rfl) fun a b c ha hb hc => ?_
 have na := ha.da hr
 have fa : U.live a = none := ha.1
 have e1 := cE ha (x := .box [.bj])
 have ka : (U.new a (.box [.bj])).box a = some [.bj] := aW
 generalize U.new a (.box [.bj]) = bP at *
 have nb := hb.da (e1.bU hr)
 have nab := hb.da ka
 have fb : U.live b = none := e1.fresh hb.1
 have e2 := cE hb (x := .box [.int .i64 0])
 have kb : (bP.new b (.box [.int .i64 0])).box b = some [.int .i64 0] := aW
 have ka2 := e2.bU ka
 generalize bP.new b (.box [.int .i64 0]) = bI at *
 have nc := hc.da ((e1.trans e2).bU hr)
 have nac := hc.da ka2
 have nbc := hc.da kb
 have fc : U.live c = none := (e1.trans e2).fresh hc.1
 have e3 := cE hc (x := .box [.bool false])
 have kc : (bI.new c (.box [.bool false])).box c = some [.bool false] := aW
 have ka3 := e3.bU ka2
 have kb3 := e3.bU kb
 have Xt := e1.trans (e2.trans e3)
 have xe := Xt.bU hr
 generalize bI.new c (.box [.bool false]) = bQ at *
 have hg := J4 (L := X.L) (E := X.E) hi
 refine Rf X hi r bQ _ xe ⟨fun ns j e hj v af hk A => ?_, fun j e af A => ?_⟩
 · rw [e] at hg
   refine ⟨hk.scalar, ⟨_, A.ex.bU na.symm ka3⟩, ⟨_, A.ex.bU nb.symm kb3⟩, ⟨_, A.ex.bU nc.symm kc⟩, ?_⟩
   refine h1 ns j v _ e hj hg.1 hk ⟨?_, (((Xt.rz.trans A.ex).cw fa).cw fb).cw fc⟩
   rw [fh (nW nc), fh (nW nb), fh (nW na)]
   exact A.box
 · rw [e] at hg
   refine ⟨_, rfl, ⟨_, A.ex.bU na.symm ka3⟩, ⟨_, A.ex.bU nb.symm kb3⟩, ⟨_, A.ex.bU nc.symm kc⟩, fun q hq => ?_⟩
   have hqr := hq.da A.box
   refine h2 j _ e hg.1 hg.2 ⟨?_, ((((Xt.rz.trans A.ex).new hq).cw fa).cw fb).cw fc⟩
   rw [fh (nW nc), fh (nW nb), fh (nW na), og hqr]
   exact A.box
end
def dy (l : List Nd) : AV := if l = [] then .ak else .vec l.length .gC (bJ l)
def dA (l : List Nd) : List Nd × Int := if 900 < (node 1 [] 0 0 0 l).length \/ lR (node 1 [] 0 0 0 l) = true then ([], 5) else (node 1 [] 0 0 0 l, 0)
theorem dI.abh : ∀ {b : Bool} {ks : List AV} {l : List Nd}, dI b ks l -> ∀ x ∈ l, 1 <= x.size /\ x.size <= l.length := by
 intro b ks l h
 induction h with
 | mk h1 h2 ih =>
   intro x hx
   simp only [node, fC] at hx
   rw [bT]
   rcases hx with rfl | hx
   · simp; omega
   · have := ih x hx; omega
 | nil => intro x hx; cases hx
 | cons h1 h2 i1 i2 =>
   intro x hx
   simp only [gg] at hx
   rw [eQ]
   rcases hx with hx | hx
   · have := i1 x hx; omega
   · have := i2 x hx; omega
theorem G7 {U : St} {R : cS -> St -> Prop} {v : AV} {ks : List AV} {l : List Nd} (hv : ks = [] /\ v = .ak \/ ∃ c, v = .vec ks.length c ks) (hk : dI true ks l) (hl : l.length <= 90000)
 (h : ∀ af, dr U af -> R (.ret (.aU [.agg [dy (dA l).1], .int .i64 (dA l).2])) af) : ad K 56 [v] U R := by
 refine R3 ?_
 unfold TZ
 rw [du]
 intro b2 gA
 have m2 : (U.new b2 (.box [.ak])).box b2 = some [.ak] := aW
 have e1 := cE gA (x := .box [.ak])
 have f2 := gA.1
 generalize U.new b2 (.box [.ak]) = bP at *
 have pZ : v.cN = true /\ aC v = [v] := by
  rcases hv with ⟨_, rfl⟩ | ⟨c, rfl⟩ <;> exact ⟨rfl, rfl⟩
 refine gz [.int .u8 1, .str [], .int .i64 0, .int .i64 0, .int .i64 0, .int .i64 0] rfl ?_
 refine gz (kT 1 [] 0 0 0 v) (by simp [pT, pZ, az, kT]) ?_
 rw [jR rfl]
 intro b9 Bi
 have m9 : (bP.new b9 (.box (aC (.agg (kT 1 [] 0 0 0 v))))).box b9 = some (kT 1 [] 0 0 0 v) := aW
 have e2 := e1.new Bi (x := .box (aC (.agg (kT 1 [] 0 0 0 v))))
 have TB := (cE Bi (x := .box (aC (.agg (kT 1 [] 0 0 0 v))))).bU m2
 generalize bP.new b9 (.box (aC (.agg (kT 1 [] 0 0 0 v)))) = bI at *
 refine DY (.inr ⟨b9, rfl, m9⟩) hk (by omega) (fun a l1 h1 h2 => DX l.length a l1 h1 h2 (by omega)) hv fun bQ e3 => ?_
 have YM := e3.bU TB
 have E3 := e2.trans e3
 simp only [bg]
 have FP : ∃ t, t = node 1 [] 0 0 0 l /\ t.length = l.length + 1 := ⟨_, rfl, rfl⟩
 obtain ⟨t, ht, htl⟩ := FP
 rw [<- ht, <- htl]
 refine gz [.vec t.length .gC (bJ t)] rfl ?_
 rw [du]
 intro b5 uY
 have m5 : (bQ.new b5 (.box [.ak])).box b5 = some [.ak] := aW
 have n25 := uY.da YM
 have f5 := E3.fresh uY.1
 have E4 := E3.new uY (x := .box [.ak])
 have m2n := (cE uY (x := .box [.ak])).bU YM
 generalize bQ.new b5 (.box [.ak]) = cz at *
 rw [cT m5]
 refine ⟨⟨rfl, rfl, by simp⟩, ?_⟩
 have g5 : (cz.set b5 (.box (az [.ak] 0 (aC (.agg [.vec t.length .gC (bJ t)]))))).box b5 = some [.vec t.length .gC (bJ t)] := by rw [bf]; rfl
 have g2 : (cz.set b5 (.box (az [.ak] 0 (aC (.agg [.vec t.length .gC (bJ t)]))))).box b2 = some [.ak] := by rw [bK n25]; exact m2n
 have E5 := E4.set f5 (x := .box (az [.ak] 0 (aC (.agg [.vec t.length .gC (bJ t)]))))
 generalize cz.set b5 (.box (az [.ak] 0 (aC (.agg [.vec t.length .gC (bJ t)])))) = dm at *
 simp only [aR, aj, bW]
 rw [eG g5, eR, bq]
 simp only [pH, aj, eu, aS, aM]
 have cH : t ≠ [] := by rw [ht]; simp [node]
 have fi : ∀ x ∈ t, 0 <= x.size /\ x.size <= 100000 := fun x hx => by
  have xP : dI false [.cP (kT 1 [] 0 0 0 v)] t := by rw [ht]; exact .mk hk hv
  have := xP.abh x hx
  omega
 have tJ : mF t <= t.length := by rw [ht]; simp [mF, node]
 have UM : closed (.vec t.length .gC (bJ t)) = true := by
  have : ∀ l : List Nd, cL (bJ l) = true := fun l => by
   induction l with
   | nil => rfl
   | cons x l ih => show cL (fO x ++ bJ l) = true; simp [fO, cL, closed, ih]
  exact this t
 have hgp := JJ (.inr ⟨_, rfl⟩) UM (by omega) cH fi tJ
 have bad : (900 < t.length \/ lR t = true) -> (bE (some [(0, 1)]) (some [AV.ak]) none []).wp K dm (fun v21 U => (aD (some (true, 1)) (.box b2 0) v21 U).wp K U (fun _ U => bL (some (true, 1)) (.box b2 0) U fun r0 => al R (AV.aU [r0, (AV.int .i64 5)]) U) (aa R)) (aa R) := fun hb => by
  refine gz [.ak] rfl ?_
  rw [cT g2]
  refine ⟨⟨rfl, rfl, by simp⟩, ?_⟩
  rw [ny bf]
  refine ⟨by simp [az], ?_⟩
  have hw : dA l = ([], 5) := by unfold dA; rw [<- ht, if_pos hb]
  rw [hw] at h
  exact al.eq (h _ (E5.set f2)) rfl
 have Aj : ¬ (900 < t.length \/ lR t = true) -> (av (some (true, 1)) (.box b5 0) dm).wp K dm (fun bY U => (aD (some (true, 1)) (.box b2 0) bY U).wp K U (fun _ U => bL (some (true, 1)) (.box b2 0) U fun r0 => al R (AV.aU [r0, (AV.int .i64 0)]) U) (aa R)) (aa R) := fun hb => by
  rw [ow g5]
  refine ⟨by simp, ?_⟩
  rw [cT g2]
  refine ⟨⟨rfl, rfl, by simp⟩, ?_⟩
  rw [ny bf]
  refine ⟨by simp [az], ?_⟩
  have hw : dA l = (t, 0) := by unfold dA; rw [<- ht, if_neg hb]
  rw [hw] at h
  refine al.eq (h _ (E5.set f2)) ?_
  simp [az, dy, cH]
 by_cases h9 : 900 < t.length
 · have XK : (900 : Int) < t.length := by omega
   simp only [XK, cj, show (true == false) = false from rfl, bz, aF, if_true, aj, aK]
   exact bad (.inl h9)
 · have XK : ¬ (900 : Int) < t.length := by omega
   simp only [XK, cM, dN, bG, BV g5, eN, yq, aF, bH, if_false, aj]
   refine ⟨by simp, _, hgp, ?_⟩
   cases hg : lR t with
   | true => simp only [aK]; exact bad (.inr hg)
   | false => simp only [aE]; exact Aj (by rw [hg]; simp [h9])
end Go.Rip
