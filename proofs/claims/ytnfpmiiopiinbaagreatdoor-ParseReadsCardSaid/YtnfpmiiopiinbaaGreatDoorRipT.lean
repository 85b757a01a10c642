/- Lemmas for the proof: no conditions. -/
import Derived.Test.YtnfpmiiopiinbaaGreatDoorRipZz
import Derived.Test.YtnfpmiiopiinbaaGreatDoorRipS
import Derived.Test.YtnfpmiiopiinbaaGreatDoorRipJ
set_option linter.unusedVariables false
set_option linter.unusedSimpArgs false
set_option linter.loopingSimpArgs false
namespace Go.Rip
open Go.Proofs Go.RowKit
def Sp {α : Type} (V : PR α) (bad : Bool) (i : Nat) (W : PR α) : Prop := if bad = true then V = .bad i else V = W
structure Own (r : Nat) (ay U : St) (nb : List (Nat × List AV)) : Prop where
 own : ∀ p ∈ nb, p.1 ≠ r /\ U.box p.1 = some p.2 /\ ay.live p.1 = none
 DW : (nb.map Prod.fst).Nodup
structure S2 (X : Rx) (r : Nat) (ay : St) (V : PR (List Nd)) (bad : Bool) (i : Nat) (W : PR (List Nd)) (nb : List (Nat × List AV)) (U : St) : Prop where
 A : eg r (rr X i bad) ay U
 hi : i <= X.L.length
 sp : Sp V bad i W
 own : Own r ay U nb
structure sH (X : Rx) (r : Nat) (ay : St) (R : cS -> St -> Prop) (V : PR (List Nd)) (i0 c : Nat) : Prop where
 ok : ∀ ns j, V = .ok ns j -> j <= X.L.length -> ∀ b af, ay.live b = none -> af.box b = some (bJ ns) -> eg r (rr X j false) ay af -> R (.ret (.ms b 0 ns.length 6 43)) af
 bad : ∀ ns j, V = .bad j -> i0 <= j -> j <= X.L.length -> ns.length <= 8 * (j - i0) + c -> ∀ b af, ay.live b = none -> af.box b = some (bJ ns) -> eg r (rr X j true) ay af -> R (.ret (.ms b 0 ns.length 6 43)) af
structure Cr (X : Rx) (f : FuncId) (args : List AV) (i : Nat) (p : PR (List Nd)) (c : Nat) : Prop where
 ct : ∀ (r : Nat) (U : St) (R : cS -> St -> Prop) (bad : Bool) (V : PR (List Nd)), U.box r = some (rr X i bad) -> Sp V bad i p -> sH X r U R V i c -> ad K f (.box r 0 :: args) U R
 gd : Gd X.L.length (i + 1) i p
 len : ∀ ns j, p = .ok ns j -> ns.length + i <= j
section
variable {r : Nat} {ay U af : St} {nb : List (Nat × List AV)} {b : Nat} {l : List AV}
theorem Own.fB (h : Own r ay U nb) (e : gj r U af) : Own r ay af nb :=
 ⟨fun p hp => ⟨(h.own p hp).1, e.bU (h.own p hp).1 (h.own p hp).2.1, (h.own p hp).2.2⟩, h.DW⟩
theorem Own.cons (h : Own r ay U nb) (e : gj r U af) (hr : b ≠ r) (h0 : ay.live b = none) (hn : U.live b = none) (hb : af.box b = some l) : Own r ay af ((b, l) :: nb) := by
 refine ⟨fun p hp => ?_, ?_⟩
 · rcases fC.1 hp with rfl | hp
   · exact ⟨hr, hb, h0⟩
   · exact (h.fB e).own p hp
 · rw [et, List.nodup_cons]
   refine ⟨fun hm => ?_, h.DW⟩
   obtain ⟨p, hp, rfl⟩ := List.mem_map.1 hm
   exact dJ (h.own p hp).2.1 hn
theorem Own.ne {nb1 fL : List (Nat × List AV)} (h : Own r ay U (nb1 ++ (b, l) :: fL)) {p : Nat × List AV} (hp : p ∈ nb1 \/ p ∈ fL) : p.1 ≠ b := by
 have := h.DW
 rw [List.map_append, et, List.nodup_append] at this
 obtain ⟨h1, h2, h3⟩ := this
 rw [List.nodup_cons] at h2
 intro e
 rcases hp with hp | hp
 · exact h3 _ (List.mem_map_of_mem hp) _ (List.mem_cons_self ..) e
 · have hh := List.mem_map_of_mem (f := Prod.fst) hp
   rw [e] at hh
   exact h2.1 hh
theorem Own.kW {nb1 fL : List (Nat × List AV)} {l' : List AV} (h : Own r ay U (nb1 ++ (b, l) :: fL)) (hb : af.box b = some l') (he : ∀ b', b' ≠ b -> af.live b' = U.live b') : Own r ay af (nb1 ++ (b, l') :: fL) := by
 have g := h.own (b, l) (by simp)
 refine ⟨fun p hp => ?_, ?_⟩
 · rw [gg, fC] at hp
   have old : p ∈ nb1 \/ p ∈ fL -> p.1 ≠ r /\ af.box p.1 = some p.2 /\ ay.live p.1 = none := fun hq => by
    have g2 := h.own p (by rw [gg, fC]; rcases hq with hq | hq; exact .inl hq; exact .inr (.inr hq))
    exact ⟨g2.1, by rw [fh (he _ (h.ne hq))]; exact g2.2.1, g2.2.2⟩
   rcases hp with hp | rfl | hp
   · exact old (.inl hp)
   · exact ⟨g.1, hb, g.2.2⟩
   · exact old (.inr hp)
 · have := h.DW; simpa using this
theorem Own.drop {nb1 fL : List (Nat × List AV)} (h : Own r ay U (nb1 ++ (b, l) :: fL)) : Own r ay U (nb1 ++ fL) :=
 ⟨fun p hp => h.own p (by rw [gg] at hp ⊢; rcases hp with hp | hp; exact .inl hp; exact .inr (List.mem_cons_of_mem _ hp)), by
   have := h.DW
   rw [List.map_append, et] at this
   rw [List.map_append]
   exact this.sublist (List.Sublist.append (List.Sublist.refl _) (List.sublist_cons_self ..))⟩
end
section
variable {X : Rx} {r i : Nat} {bad : Bool} {ay U : St} {V W W' : PR (List Nd)} {nb : List (Nat × List AV)} {R : cS -> St -> Prop} {K' : AV -> St -> Prop} {Kp : AV -> St -> Prop} {w : aZ}
theorem S2.re (S : S2 X r ay V bad i W nb U) (h : bad = false -> W = W') : S2 X r ay V bad i W' nb U := by
 refine ⟨S.A, S.hi, ?_, S.own⟩
 have := S.sp
 unfold Sp at this ⊢
 cases bad with
 | true => exact this
 | false => simp only [bH, if_false] at this ⊢; rw [this]; exact h rfl
theorem S2.bd (S : S2 X r ay V true i W nb U) : V = .bad i := by have := S.sp; simpa [Sp] using this
theorem S2.gd (S : S2 X r ay V false i W nb U) : V = W := by have := S.sp; simpa [Sp] using this
theorem S2.step {af : St} {j : Nat} {dp : Bool} (S : S2 X r ay V bad i W nb U) (A : eg r (rr X j dp) U af) (hj : j <= X.L.length) (h : Sp V dp j W') : S2 X r ay V dp j W' nb af :=
 ⟨S.A.trans A, hj, h, S.own.fB A.ex⟩
theorem S2.sO {af : St} (S : S2 X r ay V bad i W nb U) (e : dr U af) : S2 X r ay V bad i W nb af :=
 S.step (.pK S.A.box e) S.hi S.sp
theorem mE (S : S2 X r ay V bad i W nb U) (h : K' (.int .i64 (bM X.L 0 i)) U) : ad K 113 [.box r 0] U (ai K' Kp) := D5 S.A.box h
theorem dD {q : Unit -> Nat -> PR (List Nd)} (S : S2 X r ay V bad i ((bm X.L w i).bind q) nb U)
 (h : ∀ dp i' a af, i <= i' -> (dp = false -> bad = false /\ i' = i + 1 /\ a = bM X.L 0 i) -> S2 X r ay V dp i' (q () i') nb af -> K' (.int .i64 a) af) : ad K 116 [.box r 0, .str w] U (ai K' Kp) := by
 refine Jc S.A.box w (fun hb hw af A => ?_) fun hb af A => ?_
 · subst hb
   have e : (bm X.L w i).bind q = q () (i + 1) := by simp [bm, hw, PR.bind]
   exact h false (i + 1) _ af (by omega) (fun _ => ⟨rfl, rfl, rfl⟩) (S.step A (cu hw) (by rw [S.gd, e]; simp [Sp]))
 · refine h true i 0 af (cG _) (fun h => by cases h) (S.step A S.hi ?_)
   cases bad with
   | true => rw [S.bd]; simp [Sp]
   | false =>
     have hw : bl X.L i w = false := by simpa using hb
     rw [S.gd]; simp [Sp, bm, hw, PR.bind]
theorem dL {P Q : PR (List Nd)} (S : S2 X r ay V bad i (if bl X.L i w = true then P else Q) nb U)
 (h1 : bad = false -> bl X.L i w = true -> ∀ af, S2 X r ay V false (i + 1) P nb af -> K' (.bool true) af) (h2 : (bad = false -> bl X.L i w = false) -> S2 X r ay V bad i Q nb U -> K' (.bool false) U) : ad K 114 [.box r 0, .str w] U (ai K' Kp) := by
 refine Ss S.A.box w (fun hb hw af A => ?_) fun hb => ?_
 · subst hb
   exact h1 rfl hw af (S.step A (cu hw) (by rw [S.gd, if_pos hw]; simp [Sp]))
 · have hf : bad = false -> bl X.L i w = false := fun e => by simpa [e] using hb
   exact h2 hf (S.re fun e => if_neg (by simp [hf e]))
theorem nh {q : aZ -> Nat -> PR (List Nd)} (S : S2 X r ay V bad i ((dM X.L i).bind q) nb U)
 (h : ∀ dp i' x af, i <= i' -> S2 X r ay V dp i' (q x i') nb af -> K' (.str x) af) : ad K 115 [.box r 0] U (ai K' Kp) := by
 refine GA S.A.box (fun t hb ht hk af A => ?_) fun hb af A => ?_
 · subst hb
   have aL := (dP.1 ht).1
   exact h false (i + 1) _ af (by omega) (S.step A aL (by rw [S.gd]; simp [Sp, dM, ht, hk, PR.bind]))
 · refine h true i _ af (cG _) (S.step A S.hi ?_)
   cases bad with
   | true => rw [S.bd]; simp [Sp]
   | false =>
     have hw : eP X.L i 1 = false := by simpa using hb
     rw [S.gd]
     unfold eP at hw
     unfold dM
     split
     · rename_i t ht; rw [ht] at hw; simp at hw; simp [Sp, hw, PR.bind]
     · simp [Sp, PR.bind]
theorem nV {q : Int -> Nat -> PR (List Nd)} (S : S2 X r ay V bad i ((fQ X.L i).bind q) nb U)
 (h : ∀ dp i' x af, i <= i' -> S2 X r ay V dp i' (q x i') nb af -> K' (.int .i64 x) af) : ad K 175 [.box r 0] U (ai K' Kp) := by
 refine KD S.A.box (fun t hb ht hk af A => ?_) fun hb af A => ?_
 · subst hb
   have aL := (dP.1 ht).1
   exact h false (i + 1) _ af (by omega) (S.step A aL (by rw [S.gd]; simp [Sp, fQ, ht, hk, PR.bind]))
 · refine h true i _ af (cG _) (S.step A S.hi ?_)
   cases bad with
   | true => rw [S.bd]; simp [Sp]
   | false =>
     have hw : eP X.L i 2 = false := by simpa using hb
     rw [S.gd]
     unfold eP at hw
     unfold fQ
     split
     · rename_i t ht; rw [ht] at hw; simp at hw; simp [Sp, hw, PR.bind]
     · simp [Sp, PR.bind]
theorem dC {f : FuncId} {args : List AV} {c : Nat} {p : PR (List Nd)} {q : List Nd -> Nat -> PR (List Nd)} (C : Cr X f args i p c) (S : S2 X r ay V bad i (p.bind q) nb U)
 (h : ∀ dp j ns b af, i <= j -> ns.length <= 8 * (j - i) + c -> (dp = false -> bad = false /\ i < j /\ ns.length + i <= j) -> S2 X r ay V dp j (q ns j) ((b, bJ ns) :: nb) af -> gj r U af -> K' (.ms b 0 ns.length 6 43) af) : ad K f (.box r 0 :: args) U (ai K' (aa R)) := by
 have hrl := dJ S.A.box
 have fin : ∀ (dp : Bool) (j : Nat) (ns : List Nd) (b : Nat) (af : St), U.live b = none -> af.box b = some (bJ ns) -> eg r (rr X j dp) U af -> j <= X.L.length -> Sp V dp j (q ns j) -> S2 X r ay V dp j (q ns j) ((b, bJ ns) :: nb) af := by
  intro dp j ns b af hb nx A hj hs
  have cH : b ≠ r := fun e => hrl (e ▸ hb)
  exact ⟨S.A.trans A, hj, hs, S.own.cons A.ex cH (S.A.ex.fresh cH hb) hb nx⟩
 refine C.ct r U _ bad (if bad = true then .bad i else p) S.A.box (by unfold Sp; cases bad <;> simp) ⟨fun ns j e hj b af hb nx A => ?_, fun ns j e dt hj hn b af hb nx A => ?_⟩
 · cases bad with
   | true => simp at e
   | false =>
     simp only [bH, if_false] at e
     have g := C.gd
     have gl := C.len ns j e
     rw [e] at g
     have h1 : i < j := g.1
     refine h false j ns b af (by omega) (by omega) (fun _ => ⟨rfl, h1, gl⟩) (fin false j ns b af hb nx A hj ?_) A.ex
     rw [S.gd, e]; simp [Sp, PR.bind]
 · refine h true j ns b af dt hn (fun h => by cases h) (fin true j ns b af hb nx A hj ?_) A.ex
   cases bad with
   | true =>
     simp only [if_true, PR.bad.injEq] at e
     subst e; rw [S.bd]; simp [Sp]
   | false =>
     simp only [bH, if_false] at e
     rw [S.gd, e]; simp [Sp, PR.bind]
theorem EH {kind : Int} {text : aZ} {n m at_ sz : Int} {kv : AV} (kids : List (Nat × List Nd)) (hm : ∀ p ∈ kids, (p.1, bJ p.2) ∈ nb)
 (pY : kids = [] /\ kv = .ak \/ ∃ c, kv = .vec kids.length c (kids.map fun p => .ms p.1 0 p.2.length 6 43)) (S : S2 X r ay V bad i W nb U)
 (hl : (kids.map Prod.snd).flatten.length <= 1000000) (pF : kids.length <= 100)
 (h : ∀ b af, S2 X r ay V bad i W ((b, bJ (node kind text n m at_ (kids.map Prod.snd).flatten)) :: nb) af -> dr U af -> K' (.ms b 0 (node kind text n m at_ (kids.map Prod.snd).flatten).length 6 43) af) :
 ad K 60 [.agg [.int .u8 kind, .str text, .int .i64 n, .int .i64 m, .int .i64 at_, .int .i64 sz], kv] U (ai K' (aa R)) := by
 refine Gi (vs := kids.map fun p => .ms p.1 0 p.2.length 6 43) (nss := kids.map Prod.snd) ?_ ?_ hl (by simpa using pF) fun b af hb nx e => ?_
 · rcases pY with ⟨rfl, rfl⟩ | ⟨c, rfl⟩
   · exact .inl ⟨rfl, rfl⟩
   · exact .inr ⟨c, by simp⟩
 · refine ⟨by simp, fun k v ns h1 h2 => ?_⟩
   rw [ma] at h1 h2
   cases hk : kids[k]? with
   | none => rw [hk] at h1; cases h1
   | some p =>
     rw [hk] at h1 h2
     cases h1; cases h2
     exact .inr ⟨p.1, rfl, (S.own.own _ (hm p (gK hk))).2.1⟩
 · have cH : b ≠ r := fun e => dJ S.A.box (e ▸ hb)
   refine h b af ⟨S.A.trans (.pK S.A.box e), S.hi, S.sp, S.own.cons e.rz cH (S.A.ex.fresh cH hb) hb nx⟩ e
theorem rJ {i0 c b : Nat} {ns : List Nd} (S : S2 X r ay V bad i (.ok ns i) nb U) (O : sH X r ay R V i0 c) (hm : (b, bJ ns) ∈ nb) (hi : i0 <= i) (hn : bad = true -> ns.length <= 8 * (i - i0) + c) : al R (.ms b 0 ns.length 6 43) U := by
 have g := S.own.own _ hm
 cases bad with
 | true => exact al.mk (O.bad ns i S.bd hi S.hi (hn rfl) b U g.2.2 g.2.1 S.A)
 | false => exact al.mk (O.ok ns i S.gd S.hi b U g.2.2 g.2.1 S.A)
theorem GC {b1 b2 : Nat} {n1 n2 : List Nd} {nb1 fL : List (Nat × List AV)} (S : S2 X r ay V bad i W (nb1 ++ (b1, bJ n1) :: fL) U) (h2 : (b2, bJ n2) ∈ nb1 \/ (b2, bJ n2) ∈ fL) (hl : n1.length + n2.length <= 1000000)
 (h : ∀ b af, S2 X r ay V bad i W ((b, bJ (n1 ++ n2)) :: (nb1 ++ fL)) af -> K' (.ms b 0 (n1 ++ n2).length 6 43) af) {mu : Bool} : (dc (some (43, 6)) mu (.ms b1 0 n1.length 6 43) (.ms b2 0 n2.length 6 43) U).wp K U K' Kp := by
 have g1 := S.own.own (b1, bJ n1) (by simp)
 have g2 := S.own.own (b2, bJ n2) (by rw [gg, fC]; rcases h2 with h | h; exact .inl h; exact .inr (.inr h))
 have CL : qp U (.ms b2 0 n2.length 6 43) = some (n2.length, bJ n2) := by
  simp only [qp, g2.2.1, eR]
  rw [uD (by rw [fj]; omega)]
 refine Cb (sz := 6) g1.2.1 CL ⟨by rw [fj]; omega, by rw [fj]; omega, by omega⟩ fun b hf => ?_
 have e0 : gj r U (U.del b1) \/ True := .inr trivial
 have cH : b ≠ r := by
  intro e
  have hd := hf.1
  rw [e, jz, if_neg (fun e => g1.1 e.symm)] at hd
  exact dJ S.A.box hd
 have rD : ay.live b = none := by
  by_cases e : b = b1
  · rw [e]; exact g1.2.2
  · have hd := hf.1
    rw [jz, if_neg e] at hd
    exact S.A.ex.fresh cH hd
 have aaC : (bJ n1).take (n1.length * 6) ++ bJ n2 = bJ (n1 ++ n2) := by
  rw [oW, uD (by rw [fj]; omega)]
 rw [aaC, <- eQ]
 have abN : Own r ay (U.del b1) (nb1 ++ fL) := by
  refine ⟨fun p hp => ?_, S.own.drop.DW⟩
  have hq : p ∈ nb1 \/ p ∈ fL := gg.1 hp
  have g := S.own.drop.own p hp
  exact ⟨g.1, by rw [oe (S.own.ne hq)]; exact g.2.1, g.2.2⟩
 have A1 : eg r (rr X i bad) ay (U.del b1) := ⟨by rw [oe (Ne.symm g1.1)]; exact S.A.box, S.A.ex.del (.inl g1.2.2)⟩
 refine h b _ ⟨⟨?_, A1.ex.new hf⟩, S.hi, S.sp, abN.cons (cE hf).rz cH rD hf.1 aW⟩
 rw [og (Ne.symm cH)]; exact A1.box
theorem M4 {l : List AV} (S : S2 X r ay V bad i W nb U) (h : ∀ b, S2 X r ay V bad i W ((b, l) :: nb) (U.new b (.box l)) -> K' (.box b 0) (U.new b (.box l))) : (aw.cJ l).wp K U K' Kp := by
 rw [du]
 intro b hf
 have cH : b ≠ r := fun e => dJ S.A.box (e ▸ hf.1)
 exact h b ⟨S.A.trans (.pK S.A.box (cE hf)), S.hi, S.sp, S.own.cons (cE hf).rz cH (S.A.ex.fresh cH hf.1) hf.1 aW⟩
theorem vu {nb1 fL : List (Nat × List AV)} {b o n : Nat} {l : List AV} {t : Bool} {v : AV} (S : S2 X r ay V bad i W nb U) (e : nb = nb1 ++ (b, l) :: fL) (hv : v.cN = true /\ (aC v).length = n /\ o + n <= l.length) (h : ∀ af, S2 X r ay V bad i W (nb1 ++ (b, az l o (aC v)) :: fL) af -> K' (.aU []) af) : (aD (some (t, n)) (.box b o) v U).wp K U K' Kp := by
 subst e
 have g := S.own.own (b, l) (by simp)
 rw [cT g.2.1]
 refine ⟨hv, h _ ⟨⟨?_, S.A.ex.set (.inl g.2.2)⟩, S.hi, S.sp, S.own.kW bf fun b' hb => by rw [gV, if_neg hb]⟩⟩
 rw [bK (Ne.symm g.1)]; exact S.A.box
end
section
variable {X : Rx} {r i : Nat} {bad : Bool} {ay U : St} {V W W' : PR (List Nd)} {nb : List (Nat × List AV)} {R : cS -> St -> Prop} {K' : AV -> St -> Prop} {Kp : AV -> St -> Prop} {k : AV -> Prop} {w : aZ}
theorem S2.same {af : St} {b : Nat} {l : List AV} (S : S2 X r ay V bad i W nb U) (h : (b, l) ∈ nb) (e : gj r U af) : cv [b] U af := by
 intro c hc
 have hc : c = b := by simpa using hc
 subst hc
 have g := S.own.own _ h
 cases hx : U.live c with
 | none => exact absurd hx (dJ g.2.1)
 | some x => exact e c x g.1 hx
theorem zo {b1 n1 : Nat} (h : K' (.vec 1 .full [.ms b1 0 n1 6 43]) U) : (aA (some (23, 1)) (some [AV.ak]) 1 false [(0, .ms b1 0 n1 6 43)]).wp K U K' Kp := by
 rw [dE]
 refine ⟨by omega, ?_⟩
 rw [c6 (o := 0) (s := 1) rfl]
 refine ⟨⟨rfl, rfl, by simp [bB]⟩, ?_⟩
 rw [er]
 exact ⟨rfl, h⟩
theorem abo {b1 n1 b2 n2 : Nat} (h : K' (.vec 2 .full [.ms b1 0 n1 6 43, .ms b2 0 n2 6 43]) U) : (aA (some (23, 1)) (some [AV.ak]) 2 false [(0, .ms b1 0 n1 6 43), (1, .ms b2 0 n2 6 43)]).wp K U K' Kp := by
 rw [dE]
 refine ⟨by omega, ?_⟩
 rw [c6 (o := 0) (s := 1) rfl]
 refine ⟨⟨rfl, rfl, by simp [bB]⟩, ?_⟩
 rw [c6 (o := 1) (s := 1) rfl]
 refine ⟨⟨rfl, rfl, by simp [bB, az]⟩, ?_⟩
 rw [er]
 exact ⟨rfl, h⟩
theorem abp {b1 n1 b2 n2 b3 n3 : Nat} (h : K' (.vec 3 .full [.ms b1 0 n1 6 43, .ms b2 0 n2 6 43, .ms b3 0 n3 6 43]) U) : (aA (some (23, 1)) (some [AV.ak]) 3 false [(0, .ms b1 0 n1 6 43), (1, .ms b2 0 n2 6 43), (2, .ms b3 0 n3 6 43)]).wp K U K' Kp := by
 rw [dE]
 refine ⟨by omega, ?_⟩
 rw [c6 (o := 0) (s := 1) rfl]
 refine ⟨⟨rfl, rfl, by simp [bB]⟩, ?_⟩
 rw [c6 (o := 1) (s := 1) rfl]
 refine ⟨⟨rfl, rfl, by simp [bB, az]⟩, ?_⟩
 rw [c6 (o := 2) (s := 1) rfl]
 refine ⟨⟨rfl, rfl, by simp [bB, az]⟩, ?_⟩
 rw [er]
 exact ⟨rfl, h⟩
theorem Kv {b1 n1 : Nat} (h : k (.vec 1 .full [.ms b1 0 n1 6 43])) : ar K (aA (some (23, 1)) (some [AV.ak]) 1 false [(0, .ms b1 0 n1 6 43)]) k := by
 rw [ti]
 refine ⟨by omega, ?_⟩
 rw [nR (o := 0) (s := 1) rfl]
 refine ⟨⟨rfl, rfl, by simp [bB]⟩, ?_⟩
 rw [vp]
 exact ⟨rfl, h⟩
theorem Kw {b1 n1 b2 n2 : Nat} (h : k (.vec 2 .full [.ms b1 0 n1 6 43, .ms b2 0 n2 6 43])) : ar K (aA (some (23, 1)) (some [AV.ak]) 2 false [(0, .ms b1 0 n1 6 43), (1, .ms b2 0 n2 6 43)]) k := by
 rw [ti]
 refine ⟨by omega, ?_⟩
 rw [nR (o := 0) (s := 1) rfl]
 refine ⟨⟨rfl, rfl, by simp [bB]⟩, ?_⟩
 rw [nR (o := 1) (s := 1) rfl]
 refine ⟨⟨rfl, rfl, by simp [bB, az]⟩, ?_⟩
 rw [vp]
 exact ⟨rfl, h⟩
theorem aa6 {b1 n1 b2 n2 b3 n3 : Nat} (h : k (.vec 3 .full [.ms b1 0 n1 6 43, .ms b2 0 n2 6 43, .ms b3 0 n3 6 43])) : ar K (aA (some (23, 1)) (some [AV.ak]) 3 false [(0, .ms b1 0 n1 6 43), (1, .ms b2 0 n2 6 43), (2, .ms b3 0 n3 6 43)]) k := by
 rw [ti]
 refine ⟨by omega, ?_⟩
 rw [nR (o := 0) (s := 1) rfl]
 refine ⟨⟨rfl, rfl, by simp [bB]⟩, ?_⟩
 rw [nR (o := 1) (s := 1) rfl]
 refine ⟨⟨rfl, rfl, by simp [bB, az]⟩, ?_⟩
 rw [nR (o := 2) (s := 1) rfl]
 refine ⟨⟨rfl, rfl, by simp [bB, az]⟩, ?_⟩
 rw [vp]
 exact ⟨rfl, h⟩
theorem sF {kind : Int} {text : aZ} {n m at_ sz : Int} {kv : AV} {i0 c : Nat} {fl : List Nd} (kids : List (Nat × List Nd)) (pX : (kids.map Prod.snd).flatten = fl) (hm : ∀ p ∈ kids, (p.1, bJ p.2) ∈ nb)
 (pY : kids = [] /\ kv = .ak \/ ∃ c, kv = .vec kids.length c (kids.map fun p => .ms p.1 0 p.2.length 6 43)) (pF : kids.length <= 100) (S : S2 X r ay V bad i W nb U) (O : sH X r ay R V i0 c) (hW : bad = false -> W = .ok (node kind text n m at_ fl) i)
 (hi : i0 <= i) (hn : bad = true -> fl.length + 1 <= 8 * (i - i0) + c) (hl : fl.length <= 1000000) {Q : St -> Prop} (hQ : ∀ af, dr U af -> Q af) : ad K 60 [.agg [.int .u8 kind, .str text, .int .i64 n, .int .i64 m, .int .i64 at_, .int .i64 sz], kv] U (ai (fun v U => Q U /\ al R v U) (aa R)) := by
 subst pX
 refine EH kids hm pY S hl pF fun b af S e => ⟨hQ af e, ?_⟩
 exact rJ (S.re hW) O (by simp) hi hn
theorem mc {kind : Int} {text : aZ} {n m at_ sz : Int} {kv : AV} {i0 c : Nat} {fl : List Nd} (kids : List (Nat × List Nd)) (pX : (kids.map Prod.snd).flatten = fl) (hm : ∀ p ∈ kids, (p.1, bJ p.2) ∈ nb)
 (pY : kids = [] /\ kv = .ak \/ ∃ c, kv = .vec kids.length c (kids.map fun p => .ms p.1 0 p.2.length 6 43)) (pF : kids.length <= 100) (S : S2 X r ay V bad i W nb U) (O : sH X r ay R V i0 c) (hW : bad = false -> W = .ok (node kind text n m at_ fl) i)
 (hi : i0 <= i) (hn : bad = true -> fl.length + 1 <= 8 * (i - i0) + c) (hl : fl.length <= 1000000) : ad K 60 [.agg [.int .u8 kind, .str text, .int .i64 n, .int .i64 m, .int .i64 at_, .int .i64 sz], kv] U (ai (fun v U => al R v U) (aa R)) := by
 subst pX
 refine EH kids hm pY S hl pF fun b af S e => ?_
 exact rJ (S.re hW) O (by simp) hi hn
end
end Go.Rip
namespace Go.Rip
open Go.Proofs Go.RowKit
section
variable {X : Rx} {i : Nat}
theorem S2.start {r : Nat} {U : St} {V W : PR (List Nd)} {bad : Bool} (hr : U.box r = some (rr X i bad)) (hi : i <= X.L.length) (hs : Sp V bad i W) : S2 X r U V bad i W [] U :=
 ⟨.pK hr (.refl _), hi, hs, ⟨by simp, by simp⟩⟩
theorem Rd {L : List Tk} {i : Nat} {w w' : aZ} (h : bl L i w = true) (h' : bl L i w' = true) : w = w' := by
 unfold bl at h h'
 split at h
 · rename_i t ht
   rw [ht] at h'
   simp at h h'
   rw [<- h.2, <- h'.2]
 · cases h
theorem Iw {L : List Tk} {i : Nat} {w w' : aZ} (h : bl L i w = true) (n : w ≠ w') : bl L i w' = false := by
 cases e : bl L i w' with
 | false => rfl
 | true => exact absurd (Rd h e) n
theorem uR (hi : i <= X.L.length) : Cr X 119 [] i (fJ X.L 0 i) 1 := by
 refine ⟨fun r U R bad V hr hs O => ?_, nE hi, fun ns j h => ry h⟩
 refine NG ?_
 unfold NF
 have S := S2.start hr hi hs
 unfold fJ at S
 refine mE S ?_
 refine dL S (fun hb hw bP S => ?_) fun hf S => ?_
 · simp only [aK]
   refine gz [.int .u8 6, .str [], .int .i64 1, .int .i64 0, .int .i64 (bM X.L 0 i), .int .i64 0] rfl ?_
   exact mc [] rfl (by simp) (.inl ⟨rfl, rfl⟩) (by simp) S O (fun _ => rfl) (by omega) (fun h => by cases h) (by simp)
 simp only [aE]
 refine dL S (fun hb hw bP S => ?_) fun kJ S => ?_
 · simp only [aK]
   refine gz [.int .u8 6, .str [], .int .i64 2, .int .i64 0, .int .i64 (bM X.L 0 i), .int .i64 0] rfl ?_
   exact mc [] rfl (by simp) (.inl ⟨rfl, rfl⟩) (by simp) S O (fun _ => rfl) (by omega) (fun h => by cases h) (by simp)
 simp only [aE]
 replace S := S.re (W' := if bl X.L i wN = true then (fQ X.L (i + 1)).bind fun n j => .ok (node 6 [] n 0 (bM X.L 0 i) []) j else (bm X.L rN i).bind fun _ j => (fQ X.L j).bind fun n j => .ok (node 7 [] n 0 (bM X.L 0 i) []) j) (fun _ => by
  by_cases h1 : bl X.L i wN = true
  · have h2 := Iw h1 (w' := rN) (by decide)
    simp [h1, h2, bm, PR.bind]
  · by_cases h2 : bl X.L i rN = true
    · simp [h1, h2, bm, PR.bind]
    · simp [h1, h2, bm, PR.bind])
 refine dL S (fun hb hw bP S => ?_) fun kJ S => ?_
 · simp only [aK]
   refine nV S fun dp i' x bI dt S => ?_
   refine gz [.int .u8 6, .str [], .int .i64 x, .int .i64 0, .int .i64 (bM X.L 0 i), .int .i64 0] rfl ?_
   exact mc [] rfl (by simp) (.inl ⟨rfl, rfl⟩) (by simp) S O (fun _ => rfl) (by omega) (fun h => by simp) (by simp)
 · simp only [aE]
   refine dD S fun dp i' a bI dt _ S => ?_
   refine nV S fun dp i'' x bI ac8 S => ?_
   refine gz [.int .u8 7, .str [], .int .i64 x, .int .i64 0, .int .i64 (bM X.L 0 i), .int .i64 0] rfl ?_
   exact mc [] rfl (by simp) (.inl ⟨rfl, rfl⟩) (by simp) S O (fun _ => rfl) (by omega) (fun h => by simp) (by simp)
theorem Cx (hi : i <= X.L.length) : Cr X 279 [] i (jK X.L 0 i) 1 := by
 refine ⟨fun r U R bad V hr hs O => ?_, sJ hi, fun ns j h => xw h⟩
 refine P4 ?_
 unfold P3
 have S := S2.start hr hi hs
 unfold jK at S
 refine mE S ?_
 refine nh S fun dp i' x bP dt S => ?_
 refine gz [.int .u8 37, .str x, .int .i64 0, .int .i64 0, .int .i64 (bM X.L 0 i), .int .i64 0] rfl ?_
 exact mc [] rfl (by simp) (.inl ⟨rfl, rfl⟩) (by simp) S O (fun _ => rfl) (by omega) (fun h => by simp) (by simp)
theorem AE {r : Nat} {ay U : St} {bad : Bool} {V : PR (List Nd)} {one : Nat -> PR (List Nd)} {iK : FuncId} {c b1 : Nat} {fL : List (Nat × List AV)} {R : cS -> St -> Prop} {K' : AV -> AV -> AV -> St -> Prop} {m : AV}
 (C : ∀ i, i <= X.L.length -> Cr X iK [] i (one i) c) (hc : c <= 8) {fu : Nat} {ns : List Nd} {i0 : Nat} (Bq : i0 <= i) (zH : ns.length <= 8 * (i - i0) + c) (hf : bad = false -> X.L.length - i < fu) {q : List Nd -> Nat -> PR (List Nd)}
 (S : S2 X r ay V bad i ((js X.L one fu ns i).bind q) ((b1, bJ ns) :: fL) U)
 (h : ∀ dp j acc b af, i <= j -> acc.length <= 8 * (j - i0) + c -> S2 X r ay V dp j (q acc j) ((b, bJ acc) :: fL) af -> K' (.box r 0) m (.ms b 0 acc.length 6 43) af) :
 cD 3 [.box r 0, m, .ms b1 0 ns.length 6 43] U fun lp v0 v3 v4 U =>
  ad K 114 [v0, (AV.str nB)] U (ai (fun bw U =>
  ao bw (
   ad K iK [v0] U (ai (fun ck U =>
   (dc (some (43, 6)) false v4 ck U).wp K U (fun cn U =>
   lp v0 v3 cn U) (aa R)) (aa R))) (
   K' v0 v3 v4 U)) (aa R)) := by
 refine ⟨fun mm v0 v3 v4 af => ∃ dp j acc b f', mm = X.L.length - j /\ v0 = .box r 0 /\ v3 = m /\ v4 = .ms b 0 acc.length 6 43 /\ i <= j /\ acc.length <= 8 * (j - i0) + c /\ (dp = false -> X.L.length - j < f') /\ S2 X r ay V dp j ((js X.L one f' acc j).bind q) ((b, bJ acc) :: fL) af,
  ⟨_, bad, i, ns, b1, fu, rfl, rfl, rfl, rfl, cG _, zH, hf, S⟩, ?_⟩
 rintro mm v0 v3 v4 bI ⟨dp, j, acc, b, f', rfl, rfl, rfl, rfl, dt, Ak, kJ, S⟩
 have hs := X.small
 have hj := S.hi
 replace S := S.re (W' := if bl X.L j nB = true then (one (j + 1)).bind fun b j => (js X.L one (f' - 1) (acc ++ b) j).bind q else q acc j) (fun hb => by
  have := kJ hb
  cases f' with
  | zero => omega
  | succ f' =>
    rw [js]
    split
    · cases one (j + 1) <;> rfl
    · rfl)
 refine dL S (fun hb hw bQ S => ?_) fun Ii S => ?_
 · simp only [aK]
   have aL := cu hw
   have Ii := kJ hb
   refine dC (C _ aL) S fun gu j2 qf b2 cz mK wZ hg S e => ?_
   have abU := S.hi
   refine GC (nb1 := [(b2, bJ qf)]) S (.inl (by simp)) (by omega) fun b3 dm S => ?_
   refine ⟨X.L.length - j2, by omega, gu, j2, acc ++ qf, b3, f' - 1, rfl, rfl, rfl, rfl, by omega, by rw [eQ]; omega, fun hb => ?_, ?_⟩
   · have := hg hb; omega
   · have o := S.own
     exact ⟨S.A, S.hi, S.sp, ⟨fun p hp => o.own p (by simp at hp ⊢; rcases hp with h | h; exact .inl h; exact .inr (.inr h)), by have := o.DW; simp at this ⊢; exact ⟨this.1.2, this.2.2⟩⟩⟩
 · simp only [aE]
   exact h dp j acc b bI dt Ak S
theorem PR.HV {α : Type} (p : PR α) : p.bind (fun a j => .ok a j) = p := by cases p <;> rfl
theorem C6 {r : Nat} {ay U : St} {bad : Bool} {V p : PR (List Nd)} {nb : List (Nat × List AV)} {R : cS -> St -> Prop} {f : FuncId} {args : List AV} {c i0 : Nat} (C : Cr X f args i p c) (S : S2 X r ay V bad i p nb U) (O : sH X r ay R V i0 c) (hi : i0 <= i) : ad K f (.box r 0 :: args) U (ai (fun v U => al R v U) (aa R)) := by
 replace S := S.re (W' := p.bind fun a j => .ok a j) (fun _ => (PR.HV p).symm)
 refine dC C S fun dp j ns b af dt hn _ S e => ?_
 exact rJ S O (by simp) (by omega) (fun _ => by omega)
theorem IE {f : Nat} (hi : i <= X.L.length) (hf : X.L.length < f) : Cr X 117 [] i (lI X.L 0 f i) 1 := by
 refine ⟨fun r U R bad V hr hs O => ?_, sZ hi hf, fun ns j h => x6 h⟩
 refine NB ?_
 unfold NA
 have S := S2.start hr hi hs
 have iN := X.small
 unfold lI at S
 refine mE S ?_
 refine dL S (fun hb hw bP S => ?_) fun hf S => ?_
 · simp only [cZ, aj, cC, aE]
   have aL := cu hw
   unfold jr at S
   replace S := S.re (W' := (fJ X.L 0 (i + 1)).bind fun a j => (js X.L (fJ X.L 0) f a j).bind fun a j => (bm X.L eF j).bind fun _ j => (bm X.L gy j).bind fun _ j => (fJ X.L 0 j).bind fun b j => .ok (node 8 [] 0 0 (bM X.L 0 i) (a ++ b)) j) (fun _ => by
    cases fJ X.L 0 (i + 1) <;> rfl)
   refine dC (uR aL) S fun kK j1 vg b1 bI h1 u3 qz S e1 => ?_
   refine AE (c := 1) (i0 := i + 1) (fun i hi => uR hi) (by omega) h1 u3 (fun hb => by omega) S fun gu j2 acc b2 bQ h2 wZ S => ?_
   refine dD S fun qE j3 a3 cz h3 _ S => ?_
   refine dD S fun xv j4 a4 dm h4 _ S => ?_
   refine gz [.int .u8 8, .str [], .int .i64 0, .int .i64 0, .int .i64 (bM X.L 0 i), .int .i64 0] rfl ?_
   refine dC (uR S.hi) S fun sI j5 qh b5 gM h5 FE wX S e5 => ?_
   have := S.hi
   refine abo ?_
   exact mc [(b2, acc), (b5, qh)] (fl := acc ++ qh) (by simp) (by simp) (.inr ⟨.full, rfl⟩) (by simp) S O (fun _ => rfl) (by omega) (fun h => by simp; omega) (by simp; omega)
 · simp only [cZ, aj, dk, aK]
   exact C6 (uR hi) S O (cG _)
theorem Gs {f : Nat} (hi : i <= X.L.length) (hf : X.L.length < f) : Cr X 118 [] i (gm X.L 0 f i) 2 := by
 refine ⟨fun r U R bad V hr hs O => ?_, yj hi hf, fun ns j h => BR h⟩
 refine ND ?_
 unfold NC
 have S := S2.start hr hi hs
 have iN := X.small
 unfold gm at S
 refine mE S ?_
 refine nh S fun kK j1 x bP h1 S => ?_
 refine dD S fun gu j2 a2 bI h2 _ S => ?_
 refine gz [.int .u8 5, .str x, .int .i64 0, .int .i64 0, .int .i64 (bM X.L 0 i), .int .i64 0] rfl ?_
 refine dC (IE S.hi hf) S fun qE j3 qg b3 bQ h3 DA lC S e3 => ?_
 have := S.hi
 refine zo ?_
 exact mc [(b3, qg)] (fl := qg) (by simp) (by simp) (.inr ⟨.full, rfl⟩) (by simp) S O (fun _ => rfl) (by omega) (fun h => by omega) (by omega)
end
end Go.Rip
namespace Go.Rip
open Go.Proofs Go.RowKit
def bx (kind : Int) (text : aZ) (n m at_ : Int) : List AV := [.int .u8 kind, .str text, .int .i64 n, .int .i64 m, .int .i64 at_, .int .i64 0]
section
variable {X : Rx} {r i : Nat} {bad : Bool} {ay U : St} {V W W' : PR (List Nd)} {nb nb1 fL : List (Nat × List AV)} {R : cS -> St -> Prop} {K' : AV -> St -> Prop} {Q : St -> Prop} {Kp : AV -> St -> Prop} {k : AV -> Prop} {w : aZ} {kind n m at_ : Int} {text : aZ} {bk : Nat}
theorem sH.tail {i0 c : Nat} (O : sH X r ay R V i0 c) : sH X r ay (ai (fun v U => al R v U) (aa R)) V i0 c :=
 ⟨fun ns j h hj b af h1 h2 A => al.mk (O.ok ns j h hj b af h1 h2 A), fun ns j h h0 hj hn b af h1 h2 A => al.mk (O.bad ns j h h0 hj hn b af h1 h2 A)⟩
theorem S2.new {b : Nat} {l : List AV} (S : S2 X r ay V bad i W nb U) (hf : U.dB b) : S2 X r ay V bad i W ((b, l) :: nb) (U.new b (.box l)) := by
 have cH : b ≠ r := fun e => dJ S.A.box (e ▸ hf.1)
 exact ⟨S.A.trans (.pK S.A.box (cE hf)), S.hi, S.sp, S.own.cons (cE hf).rz cH (S.A.ex.fresh cH hf.1) hf.1 aW⟩
theorem GD {a : Int} (S : S2 X r ay V bad i W nb U) (h : ∀ k af, S2 X r ay V bad i W ((k, bx 0 [] 0 0 a) :: nb) af -> K' (.box k 0) af) :
 (aw.cJ [AV.int .u8 0, AV.str [], AV.int .i64 0, AV.int .i64 0, AV.int .i64 0, AV.int .i64 0]).wp K U (fun v3 U => (aD (some (true, 6)) v3 (.agg [.int .u8 0, .str [], .int .i64 0, .int .i64 0, .int .i64 a, .int .i64 0]) U).wp K U (fun _ U => K' v3 U) Kp) Kp :=
 M4 S fun b S => vu (nb1 := []) S rfl ⟨rfl, rfl, by simp⟩ fun af S => h b af S
theorem fe {x : Int} (nb1 : List (Nat × List AV)) (S : S2 X r ay V bad i W (nb1 ++ (bk, bx kind text n m at_) :: fL) U) (h : ∀ af, S2 X r ay V bad i W (nb1 ++ (bk, bx x text n m at_) :: fL) af -> Q af) :
 (ag (some 0) (.box bk 0)).wp K U (fun v U => (aD (some (false, 1)) v (.int .u8 x) U).wp K U (fun _ U => Q U) Kp) Kp :=
 vu (o := 0 + 0) (nb1 := nb1) S rfl ⟨rfl, rfl, by simp [bx]⟩ fun af S => h af S
theorem mD {x : aZ} (nb1 : List (Nat × List AV)) (S : S2 X r ay V bad i W (nb1 ++ (bk, bx kind text n m at_) :: fL) U) (h : ∀ af, S2 X r ay V bad i W (nb1 ++ (bk, bx kind x n m at_) :: fL) af -> Q af) :
 (ag (some 1) (.box bk 0)).wp K U (fun v U => (aD (some (false, 1)) v (.str x) U).wp K U (fun _ U => Q U) Kp) Kp :=
 vu (o := 0 + 1) (nb1 := nb1) S rfl ⟨rfl, rfl, by simp [bx]⟩ fun af S => h af S
theorem KF {x : Int} (nb1 : List (Nat × List AV)) (S : S2 X r ay V bad i W (nb1 ++ (bk, bx kind text n m at_) :: fL) U) (h : ∀ af, S2 X r ay V bad i W (nb1 ++ (bk, bx kind text x m at_) :: fL) af -> Q af) :
 (ag (some 2) (.box bk 0)).wp K U (fun v U => (aD (some (false, 1)) v (.int .i64 x) U).wp K U (fun _ U => Q U) Kp) Kp :=
 vu (o := 0 + 2) (nb1 := nb1) S rfl ⟨rfl, rfl, by simp [bx]⟩ fun af S => h af S
theorem abe {x : Int} (nb1 : List (Nat × List AV)) (S : S2 X r ay V bad i W (nb1 ++ (bk, bx kind text n m at_) :: fL) U) (h : ∀ af, S2 X r ay V bad i W (nb1 ++ (bk, bx kind text n x at_) :: fL) af -> Q af) :
 (ag (some 3) (.box bk 0)).wp K U (fun v U => (aD (some (false, 1)) v (.int .i64 x) U).wp K U (fun _ U => Q U) Kp) Kp :=
 vu (o := 0 + 3) (nb1 := nb1) S rfl ⟨rfl, rfl, by simp [bx]⟩ fun af S => h af S
theorem vr (S : S2 X r ay V bad i W nb U) (h : (bk, bx kind text n m at_) ∈ nb) (hk : k (.agg (bx kind text n m at_))) : ar K (av (some (true, 6)) (.box bk 0) U) k := by
 rw [BV (S.own.own _ h).2.1]
 exact ⟨by simp [bx], hk⟩
theorem rI (S : S2 X r ay V bad i W nb U) (h : (bk, bx kind text n m at_) ∈ nb) (hk : K' (.agg (bx kind text n m at_)) U) : (av (some (true, 6)) (.box bk 0) U).wp K U K' Kp := by
 rw [ow (S.own.own _ h).2.1]
 exact ⟨by simp [bx], hk⟩
theorem CZ {f : Nat} {i0 : Nat} (hF : ∀ j, j <= X.L.length -> i <= j -> Cr X 176 [] j (bR X.L 0 f j) 1) (Bq : i0 + 1 <= i)
 (S : S2 X r ay V bad i ((bR X.L 0 f i).bind fun a j => (bm X.L w j).bind fun _ j => (bR X.L 0 f j).bind fun b j => .ok (node kind text n m at_ (a ++ b)) j) nb U) (O : sH X r ay R V i0 1) :
 ad K 228 [.box r 0, .agg (bx kind text n m at_), .str w] U (ai (fun v U => al R v U) (aa R)) := by
 replace O := O.tail
 generalize ai (fun v U => al R v U) (aa R) = R at O ⊢
 refine PC ?_
 unfold PB
 have iN := X.small
 rw [jR rfl]
 intro bk hf
 replace S := S.new (l := bx kind text n m at_) hf
 show ad K 176 _ (U.new bk (.box (bx kind text n m at_))) _
 generalize U.new bk (.box (bx kind text n m at_)) = U at S ⊢
 refine dC (hF _ S.hi (cG _)) S fun kK j1 vg b1 bP h1 u3 qz S e1 => ?_
 refine dD S fun gu j2 a2 bI h2 _ S => ?_
 refine vr S (.tail _ (.head _)) ?_
 have S0 := S
 refine dC (hF _ S.hi (by omega)) S fun qE j3 qg b3 bQ h3 DA lC S e3 => ?_
 have := S.hi
 refine ⟨S0.same (b := bk) (.tail _ (.head _)) e3, Kw ?_⟩
 exact sF (Q := fun U => cv _ bI U) [(b1, vg), (b3, qg)] (fl := vg ++ qg) (by simp) (by simp) (.inr ⟨.full, rfl⟩) (by simp) S O (fun _ => rfl) (by omega) (fun h => by simp; omega) (by simp; omega) fun af e => S0.same (b := bk) (.tail _ (.head _)) (e3.trans e.rz)
end
section
variable {X : Rx} {i : Nat}
theorem Uu {t : Tk} (h : lM t) (e : t.s = cx) : t.k = 4 := by
 rcases yI h.2 with ⟨_, _, _, ⟨c, r, h1, h2⟩, _⟩ | ⟨_, c, r, h1, h2⟩ | ⟨_, h1⟩ | ⟨h1, _⟩
 · rw [e] at h1; cases h1; exact absurd h2 (by decide)
 · rw [e] at h1; cases h1; exact absurd h2 (by decide)
 · rw [e] at h1; exact absurd h1 (by decide)
 · exact h1
theorem Kx {k : AV -> Prop} {gv : AV} {bt : BT} {l : Bool} {x y : Int} (hg : gv = .bool true) (h : tz (x + y) /\ k (.int .i64 (x + y))) : ae K gv (aq .add bt l (.int .i64 x) (.int .i64 y)) k := by
 rw [hg, aM, bG, zc]; exact h
theorem RP {r : Nat} {ay U : St} {V : PR (List Nd)} {nb : List (Nat × List AV)} {K' : AV -> St -> Prop} {Kp : AV -> St -> Prop} {q : aZ -> Nat -> PR (List Nd)} {i : Nat} (hk : eP X.L i 1 = true) (S : S2 X r ay V false i ((dM X.L i).bind q) nb U)
 (h : ∀ x af, S2 X r ay V false (i + 1) (q x (i + 1)) nb af -> K' (.str x) af) : ad K 115 [.box r 0] U (ai K' Kp) := by
 refine GA S.A.box (fun t hb ht hk af A => ?_) fun hb af A => ?_
 · have aL := (dP.1 ht).1
   exact h _ af (S.step A aL (by rw [S.gd]; simp [Sp, dM, ht, hk, PR.bind]))
 · rcases hb with hb | hb
   · cases hb
   · rw [hk] at hb; cases hb
theorem aa7 {t : Tk} {e : Nat} {k : AV -> Prop} {gv : AV} {i : Nat} {j : Int} (hj : j = (i : Nat)) (hg : gv = .bool true) (ht : X.L[i]? = some t) (h : ∀ rest, k (.cP (jo t ++ rest))) : ae K gv (aH (some (e, 3)) none X.tv (.int .i64 j)) k := by
 subst hj; exact Gw hg ht h
theorem QG {f : Nat} (hi : i <= X.L.length) (he : 40 * (X.L.length - i) + 10 <= f + 1) (hF : ∀ j, j <= X.L.length -> i + 1 <= j -> Cr X 176 [] j (bR X.L 0 f j) 1) (hO : Cr X 229 [.int .i64 0] i (eo X.L 0 f 2 i) 1) : Cr X 176 [] i (bR X.L 0 (f + 1) i) 1 := by
 refine ⟨fun r U R bad V hr hs O => ?_, (qK (f + 1)).2.2.1 i hi he, fun ns j h => (qL (f + 1)).2.2.1 h⟩
 refine O6 ?_
 unfold O5
 have S := S2.start hr hi hs
 have iN := X.small
 rw [bR] at S
 refine mE S ?_
 refine gz [.int .u8 0, .str [], .int .i64 0, .int .i64 0, .int .i64 (bM X.L 0 i), .int .i64 0] rfl ?_
 refine GD S fun bk bP S => ?_
 refine dL S (fun hb hw bI S => ?_) fun Bl S => ?_
 · simp only [aK]
   refine dC (hF _ S.hi (cG _)) S fun kK j1 vg b1 bQ h1 u3 qz S e1 => ?_
   refine dD S fun gu j2 a2 cz h2 _ S => ?_
   refine dC (hF _ S.hi (by omega)) S fun qE j3 qg b3 dm h3 DA lC S e3 => ?_
   refine dD S fun xv j4 a4 gM h4 _ S => ?_
   refine fe [_, _] S fun mT S => ?_
   refine ⟨[bk], by simp [cr], ?_⟩
   refine vr S (.tail _ (.tail _ (.head _))) ?_
   have S0 := S
   refine dC (hF _ S.hi (by omega)) S fun sI j5 qh b5 ue h5 FE wX S e5 => ?_
   have := S.hi
   refine ⟨S0.same (.tail _ (.tail _ (.head _))) e5, aa6 ?_⟩
   exact sF (Q := fun U => cv _ mT U) [(b1, vg), (b3, qg), (b5, qh)] (fl := vg ++ qg ++ qh) (by simp) (by simp) (.inr ⟨.full, rfl⟩) (by simp) S O (fun _ => rfl) (by omega) (fun h => by simp; omega) (by simp; omega) fun af e => S0.same (.tail _ (.tail _ (.head _))) (e5.trans e.rz)
 simp only [aE]
 refine dL S (fun hb hw bI S => ?_) fun kJ S => ?_
 · simp only [aK]
   refine fe [] S fun bQ S => ?_
   refine rI S (.head _) ?_
   exact CZ (i0 := i) (fun j hj dt => hF j hj dt) (cG _) S O
 simp only [aE]
 refine dL S (fun hb hw bI S => ?_) fun Ii S => ?_
 · simp only [aK]
   refine nh S fun kK j1 x bQ h1 S => ?_
   refine fe [] S fun cz S => ?_
   refine mD [] S fun dm S => ?_
   refine dD S fun gu j2 a2 gM h2 _ S => ?_
   refine nV S fun qE j3 n3 mT h3 S => ?_
   refine KF [] S fun ue S => ?_
   refine dD S fun xv j4 a4 tu h4 _ S => ?_
   refine nV S fun sI j5 n5 qx h5 S => ?_
   refine abe [] S fun ZN S => ?_
   refine dD S fun Jo j6 a6 q9 h6 _ S => ?_
   refine ⟨[bk], by simp [cr], ?_⟩
   refine vr S (.head _) ?_
   have S0 := S
   refine dC (hF _ S.hi (by omega)) S fun Jp j7 ye b7 SK h7 Te Ik S e7 => ?_
   have := S.hi
   refine ⟨S0.same (.head _) e7, Kv ?_⟩
   exact sF (Q := fun U => cv _ q9 U) [(b7, ye)] (fl := ye) (by simp) (by simp) (.inr ⟨.full, rfl⟩) (by simp) S O (fun _ => rfl) (by omega) (fun h => by omega) (by omega) fun af e => S0.same (.head _) (e7.trans e.rz)
 simp only [aE]
 refine dL S (fun hb hw bI S => ?_) fun hf4 S => ?_
 · simp only [aK]
   refine nh S fun kK j1 x bQ h1 S => ?_
   refine fe [] S fun cz S => ?_
   refine mD [] S fun dm S => ?_
   refine dD S fun gu j2 a2 gM h2 _ S => ?_
   refine rI S (.head _) ?_
   exact CZ (i0 := i) (fun j hj dt => hF j hj (by omega)) (by omega) S O
 simp only [aE]
 replace S := S.re (W' := if bl X.L i mI = true then (dM X.L (i + 1)).bind fun x j => (bm X.L cx j).bind fun _ j => (fQ X.L j).bind fun n j => (bm X.L pv j).bind fun _ j => (bR X.L 0 f j).bind fun a j => .ok (node 14 x n 0 (bM X.L 0 i) a) j
  else if bl X.L i ly = true then (bR X.L 0 f (i + 1)).bind fun a j => (bm X.L jI j).bind fun _ j => (bR X.L 0 f j).bind fun b j => .ok (node 15 [] 0 0 (bM X.L 0 i) (a ++ b)) j
  else if eP X.L i 1 = true /\ bl X.L (i + 1) cx = true then (dM X.L i).bind fun x j => (bm X.L cx j).bind fun _ j => (bR X.L 0 f j).bind fun a j => .ok (node 16 x 0 0 (bM X.L 0 i) a) j
  else eo X.L 0 f 2 i) (fun _ => by
  by_cases h1 : bl X.L i mI = true
  · have h2 := Iw h1 (w' := ly) (by decide)
    rw [if_neg (by rw [h2]; simp), if_pos h1, if_pos h1]
  · by_cases h2 : bl X.L i ly = true
    · rw [if_pos h2, if_neg h1, if_pos h2]
    · rw [if_neg h2, if_neg h1, if_neg h1, if_neg h2])
 refine dL S (fun hb hw bI S => ?_) fun hf5 S => ?_
 · simp only [aK]
   refine nh S fun kK j1 x bQ h1 S => ?_
   refine fe [] S fun cz S => ?_
   refine mD [] S fun dm S => ?_
   refine dD S fun gu j2 a2 gM h2 _ S => ?_
   refine nV S fun qE j3 n3 mT h3 S => ?_
   refine KF [] S fun ue S => ?_
   refine dD S fun Jo j6 a6 q9 h6 _ S => ?_
   refine ⟨[bk], by simp [cr], ?_⟩
   refine vr S (.head _) ?_
   have S0 := S
   refine dC (hF _ S.hi (by omega)) S fun Jp j7 ye b7 SK h7 Te Ik S e7 => ?_
   have := S.hi
   refine ⟨S0.same (.head _) e7, Kv ?_⟩
   exact sF (Q := fun U => cv _ q9 U) [(b7, ye)] (fl := ye) (by simp) (by simp) (.inr ⟨.full, rfl⟩) (by simp) S O (fun _ => rfl) (by omega) (fun h => by omega) (by omega) fun af e => S0.same (.head _) (e7.trans e.rz)
 simp only [aE]
 refine dL S (fun hb hw bI S => ?_) fun hf6 S => ?_
 · simp only [aK]
   refine fe [] S fun bQ S => ?_
   refine rI S (.head _) ?_
   exact CZ (i0 := i) (fun j hj dt => hF j hj dt) (cG _) S O
 simp only [aE]
 have qB := S.A.box
 have stop : (bad = false -> ¬ (eP X.L i 1 = true /\ bl X.L (i + 1) cx = true)) -> ad K 229 [.box r 0, .int .i64 0] bP (ai (fun GZ U => al R GZ U) (aa R)) := fun hn =>
  C6 hO (S.re fun hb => if_neg (hn hb)) O (cG _)
 refine ⟨[r], ?_⟩
 refine J6 qB 1 (fun t hb ht hk => ?_) (fun hb => ?_)
 · subst hb
   have aL := (dP.1 ht).1
   refine ⟨fun _ _ => rfl, ?_⟩
   refine dX rfl rfl ?_
   refine dX rfl rfl ?_
   refine dX rfl rfl ?_
   refine ⟨by simp [cr], ?_⟩
   refine qk (o := 1) rfl qB rfl rfl ?_
   refine Kx rfl ⟨bp (by omega) (by omega), ?_⟩
   refine dX rfl rfl ?_
   refine dX rfl rfl ?_
   refine dX rfl rfl ?_
   refine ⟨by simp [cr], ?_⟩
   refine qk (o := 0) rfl qB rfl rfl ?_
   refine Ky rfl X.tr ?_
   by_cases mr : i + 1 < X.L.length
   · obtain ⟨t2, Ts⟩ : ∃ t, X.L[i + 1]? = some t := ⟨X.L[i + 1], by simp [mr]⟩
     refine dX (v := .bool true) rfl (by rw [bh]; simp; omega) ?_
     refine uB ?_
     refine dX rfl rfl ?_
     refine dX rfl rfl ?_
     refine dX rfl rfl ?_
     refine ⟨by simp [cr], ?_⟩
     refine qk (o := 0) rfl qB rfl rfl ?_
     refine dX rfl rfl ?_
     refine dX rfl rfl ?_
     refine dX rfl rfl ?_
     refine ⟨by simp [cr], ?_⟩
     refine qk (o := 1) rfl qB rfl rfl ?_
     refine Kx rfl ⟨bp (by omega) (by omega), ?_⟩
     refine aa7 (i := i + 1) (by simp) rfl Ts fun r1 => ?_
     refine dX rfl rfl ?_
     refine ⟨by simp [cr], ?_⟩
     refine dX (v := .str t2.s) rfl rfl ?_
     refine dX (v := .bool (decide (t2.s = cx))) rfl (by rw [iV]) ?_
     refine uB ?_
     by_cases hs : t2.s = cx
     · rw [show (AV.bool (decide (t2.s = cx))) = .bool true by simp [hs]]
       simp only [aK]
       have hk4 := Uu (X.ok t2 (gK Ts)) hs
       have hw : bl X.L (i + 1) cx = true := CN Ts (.inr hk4) hs
       have zG : eP X.L i 1 = true := by unfold eP; rw [ht]; simp [hk]
       replace S := S.re fun _ => if_pos ⟨zG, hw⟩
       refine RP zG S fun x bQ S => ?_
       refine fe [] S fun cz S => ?_
       refine mD [] S fun dm S => ?_
       refine dD S fun gu j2 a2 gM h2 Dv S => ?_
       refine ⟨[bk], by simp [cr], ?_⟩
       refine vr S (.head _) ?_
       have S0 := S
       refine dC (hF _ S.hi (by omega)) S fun Jp j7 ye b7 SK h7 Te Ik S e7 => ?_
       have := S.hi
       refine ⟨S0.same (.head _) e7, Kv ?_⟩
       exact sF (Q := fun U => cv _ gM U) [(b7, ye)] (fl := ye) (by simp) (by simp) (.inr ⟨.full, rfl⟩) (by simp) S O (fun _ => rfl) (by omega) (fun h => by omega) (by omega) fun af e => S0.same (.head _) (e7.trans e.rz)
     · rw [show (AV.bool (decide (t2.s = cx))) = .bool false by simp [hs]]
       simp only [aE]
       refine stop fun _ h => hs ?_
       obtain ⟨t3, h3, _, h4⟩ := tK h.2
       rw [Ts] at h3; cases h3; exact h4
   · refine dX (v := .bool false) rfl (by rw [bh]; simp; omega) ?_
     refine uB ?_
     iterate 3 refine oY rfl ?_
     refine ⟨by simp [cr], ?_⟩
     iterate 4 refine oY rfl ?_
     refine ⟨by simp [cr], ?_⟩
     iterate 4 refine oY rfl ?_
     refine ⟨by simp [cr], ?_⟩
     iterate 2 refine oY rfl ?_
     refine uA ?_
     simp only [aE]
     exact stop fun _ h => mr (cu h.2)
 · refine ⟨fun _ _ => rfl, ?_⟩
   iterate 3 refine oY rfl ?_
   refine ⟨by simp [cr], ?_⟩
   iterate 5 refine oY rfl ?_
   refine ⟨by simp [cr], ?_⟩
   iterate 3 refine oY rfl ?_
   refine uA ?_
   iterate 3 refine oY rfl ?_
   refine ⟨by simp [cr], ?_⟩
   iterate 4 refine oY rfl ?_
   refine ⟨by simp [cr], ?_⟩
   iterate 4 refine oY rfl ?_
   refine ⟨by simp [cr], ?_⟩
   iterate 2 refine oY rfl ?_
   refine uA ?_
   simp only [aE]
   refine stop fun e h => ?_
   rcases hb with hb | hb
   · rw [hb] at e; cases e
   · rw [hb] at h; cases h.1
end
end Go.Rip
namespace Go.Rip
open Go.Proofs Go.RowKit
def fF : Nat -> List (aZ × Int)
 | 2 => [(yT, 17)]
 | 3 => [(ub, 18)]
 | 5 => [(lJ, 20), (sv, 21)]
 | 6 => [(sr, 22), (su, 23)]
 | 7 => [(so, 24)]
 | _ => []
def G9 (lev : Nat) : AV := match fF lev with
 | [] => .ak
 | l => .vec l.length .full (l.map fun p => .str p.1)
def Mr (lev : Nat) : AV := match fF lev with
 | [] => .ak
 | l => .vec l.length .full (l.map fun p => .int .u8 p.2)
theorem D1 (L : List Tk) (i lev : Nat) (h : 2 <= lev) (h7 : lev <= 7) : jB L lev i = ((fF lev).find? fun p => bl L i p.1).map fun p => p.2 := by
 have : lev = 2 \/ lev = 3 \/ lev = 4 \/ lev = 5 \/ lev = 6 \/ lev = 7 := by omega
 rcases this with rfl | rfl | rfl | rfl | rfl | rfl
 · cases h1 : bl L i yT <;> simp [jB, fF, h1]
 · cases h1 : bl L i ub <;> simp [jB, fF, h1]
 · simp [jB, fF]
 · cases h1 : bl L i lJ <;> cases h2 : bl L i sv <;> simp [jB, fF, h1, h2]
 · cases h1 : bl L i sr <;> cases h2 : bl L i su <;> simp [jB, fF, h1, h2]
 · cases h1 : bl L i so <;> simp [jB, fF, h1]
theorem vE {e : Nat} {z x : AV} {U : St} {K' : AV -> St -> Prop} {Kp : AV -> St -> Prop} (hz : aC z = [z]) (hx : x.cN = true) (hc : aC x = [x]) (h : K' (.vec 1 .full [x]) U) : (aA (some (e, 1)) (some [z]) 1 false [(0, x)]).wp K U K' Kp := by
 rw [dE]
 refine ⟨by omega, ?_⟩
 rw [c6 (o := 0) (s := 1) rfl]
 refine ⟨⟨hx, by rw [hc]; rfl, by simp [bB]⟩, ?_⟩
 rw [er, hc]
 exact ⟨rfl, h⟩
theorem Cd {e : Nat} {z x y : AV} {U : St} {K' : AV -> St -> Prop} {Kp : AV -> St -> Prop} (hx : x.cN = true) (hc : aC x = [x]) (hy : y.cN = true) (hd : aC y = [y]) (h : K' (.vec 2 .full [x, y]) U) : (aA (some (e, 1)) (some [z]) 2 false [(0, x), (1, y)]).wp K U K' Kp := by
 rw [dE]
 refine ⟨by omega, ?_⟩
 rw [c6 (o := 0) (s := 1) rfl]
 refine ⟨⟨hx, by rw [hc]; rfl, by simp [bB]⟩, ?_⟩
 rw [c6 (o := 1) (s := 1) rfl]
 refine ⟨⟨hy, by rw [hd]; rfl, by rw [hc]; simp [bB, az]⟩, ?_⟩
 rw [er, hc, hd]
 exact ⟨rfl, h⟩
theorem Gq {lev : Nat} {U : St} {R : cS -> St -> Prop} (h : 2 <= lev) (h7 : lev <= 7) (hR : R (.ret (.aU [G9 lev, Mr lev])) U) : ad K 256 [.int .i64 ((lev : Int) - 2)] U R := by
 refine PW ?_
 unfold PV
 have : lev = 2 \/ lev = 3 \/ lev = 4 \/ lev = 5 \/ lev = 6 \/ lev = 7 := by omega
 rcases this with rfl | rfl | rfl | rfl | rfl | rfl
 · simp only [aV, aj, show ((2 : Nat) : Int) - 2 = 0 from rfl, cj, aK]
   exact vE rfl rfl rfl (vE rfl rfl rfl (al.mk hR))
 · simp only [aV, aj, show ((3 : Nat) : Int) - 2 = 1 from rfl, show decide ((1 : Int) = 0) = false from rfl, cj, aK, aE]
   exact vE rfl rfl rfl (vE rfl rfl rfl (al.mk hR))
 · simp only [aV, aj, show ((4 : Nat) : Int) - 2 = 2 from rfl, show decide ((2 : Int) = 0) = false from rfl, show decide ((2 : Int) = 1) = false from rfl, show decide ((2 : Int) = 3) = false from rfl, show decide ((2 : Int) = 4) = false from rfl, show decide ((2 : Int) = 5) = false from rfl, aE]
   exact al.mk hR
 · simp only [aV, aj, show ((5 : Nat) : Int) - 2 = 3 from rfl, show decide ((3 : Int) = 0) = false from rfl, show decide ((3 : Int) = 1) = false from rfl, cj, aK, aE]
   exact Cd rfl rfl rfl rfl (Cd rfl rfl rfl rfl (al.mk hR))
 · simp only [aV, aj, show ((6 : Nat) : Int) - 2 = 4 from rfl, show decide ((4 : Int) = 0) = false from rfl, show decide ((4 : Int) = 1) = false from rfl, show decide ((4 : Int) = 3) = false from rfl, cj, aK, aE]
   exact Cd rfl rfl rfl rfl (Cd rfl rfl rfl rfl (al.mk hR))
 · simp only [aV, aj, show ((7 : Nat) : Int) - 2 = 5 from rfl, show decide ((5 : Int) = 0) = false from rfl, show decide ((5 : Int) = 1) = false from rfl, show decide ((5 : Int) = 3) = false from rfl, show decide ((5 : Int) = 4) = false from rfl, cj, aK, aE]
   exact vE rfl rfl rfl (vE rfl rfl rfl (al.mk hR))
section
variable {X : Rx} {r i : Nat} {bad : Bool} {ay U : St} {V W W' : PR (List Nd)} {nb nb' : List (Nat × List AV)} {R : cS -> St -> Prop} {K' : AV -> St -> Prop} {Kp : AV -> St -> Prop} {w : aZ}
theorem S2.sub (S : S2 X r ay V bad i W nb U) (h : nb'.Sublist nb) : S2 X r ay V bad i W nb' U :=
 ⟨S.A, S.hi, S.sp, ⟨fun p hp => S.own.own p (h.subset hp), S.own.DW.sublist (h.map _)⟩⟩
theorem AH (hw : bl X.L i w = true) (S : S2 X r ay V false i W nb U)
 (h : ∀ af, S2 X r ay V false (i + 1) W nb af -> K' (.int .i64 (bM X.L 0 i)) af) : ad K 116 [.box r 0, .str w] U (ai K' Kp) := by
 refine Jc S.A.box w (fun hb hw af A => ?_) fun hb af A => ?_
 · exact h af (S.step A (cu hw) (by rw [S.gd]; simp [Sp]))
 · rcases hb with hb | hb
   · cases hb
   · rw [hw] at hb; cases hb
theorem Rz (lev : Nat) : (fF lev).length <= 2 := by unfold fF; split <;> simp
theorem ZL {lev k : Nat} {p : aZ × Int} (h : (fF lev)[k]? = some p) : ∃ rest, G9 lev = .vec (fF lev).length .full ((fF lev).map fun p => .str p.1) /\ ((fF lev).map fun p => AV.str p.1).drop ((k : Int).toNat * 1) = .str p.1 :: rest := by
 have aL := (dP.1 h).1
 refine ⟨((fF lev).map fun p => AV.str p.1).drop (k + 1), ?_, ?_⟩
 · unfold G9
   split
   · rename_i e; rw [e] at aL; simp at aL
   · rfl
 · rw [dR, Nat.mul_one, gX (by simpa using aL)]
   have := (dP.1 h).2
   simp [this]
theorem YK {lev k : Nat} {p : aZ × Int} (h : (fF lev)[k]? = some p) : ∃ rest, Mr lev = .vec (fF lev).length .full ((fF lev).map fun p => .int .u8 p.2) /\ ((fF lev).map fun p => AV.int .u8 p.2).drop ((k : Int).toNat * 1) = .int .u8 p.2 :: rest := by
 have aL := (dP.1 h).1
 refine ⟨((fF lev).map fun p => AV.int .u8 p.2).drop (k + 1), ?_, ?_⟩
 · unfold Mr
   split
   · rename_i e; rw [e] at aL; simp at aL
   · rfl
 · rw [dR, Nat.mul_one, gX (by simpa using aL)]
   have := (dP.1 h).2
   simp [this]
theorem Vs (lev : Nat) : bD (some false) (G9 lev) = .val (.int .i64 (fF lev).length) := by
 unfold G9
 split
 · rename_i e; rw [e]; rfl
 · rfl
theorem Dp {α : Type} {l : List α} {P : α -> Bool} {k : Nat} {x : α} (h : ∀ j, j < k -> ∀ y, l[j]? = some y -> P y = false) (hk : l[k]? = some x) (hx : P x = true) : l.find? P = some x := by
 induction l generalizing k with
 | nil => simp at hk
 | cons a l ih =>
   cases k with
   | zero => simp at hk; subst hk; simp [hx]
   | succ k =>
     have := h 0 (by omega) a (by simp)
     rw [List.find?_cons, this]
     exact ih (k := k) (fun j hj y hy => h (j + 1) (by omega) y (by simpa using hy)) (by simpa using hk)
theorem Fm {α : Type} {l : List α} {P : α -> Bool} (h : ∀ j, j < l.length -> ∀ y, l[j]? = some y -> P y = false) : l.find? P = none := by
 rw [List.find?_eq_none]
 intro x hx
 obtain ⟨j, hj, rfl⟩ := List.mem_iff_getElem.1 hx
 simp [h j hj l[j] (by simp [hj])]
end
section
variable {X : Rx} {i : Nat}
theorem Lc {f lev : Nat} {r : Nat} {ay U : St} {bad : Bool} {V : PR (List Nd)} {R : cS -> St -> Prop} (hi : i <= X.L.length) (h2 : 2 <= lev) (h7 : lev <= 7) (he : 40 * (X.L.length - i) + (11 - lev) <= f + 1)
 (hC : ∀ f' j qO, f' <= f -> j <= X.L.length -> i <= j -> 2 <= qO -> qO <= 8 -> 40 * (X.L.length - j) + (11 - qO) <= f' -> Cr X 229 [.int .i64 ((qO : Int) - 2)] j (eo X.L 0 f' qO j) 1)
 (S : S2 X r ay V bad i ((eo X.L 0 f (lev + 1) i).bind fun a j => ia X.L 0 f lev a j) [] U) (O : sH X r ay R V i 1) :
 (aq .add (BT.mk false false false none) true (AV.int .i64 ((lev : Int) - 2)) (AV.int .i64 1)).wp K U (fun eJ U =>
 ad K 229 [.box r 0, eJ] U (ai (fun jv U =>
 ad K 256 [.int .i64 ((lev : Int) - 2)] U (ai (fun jH U =>
 (aX jH 0).wp K U (fun gp U =>
 (aX jH 1).wp K U (fun v49 U =>
 cD 6 [.box r 0, .int .i64 ((lev : Int) - 2), jv, gp, v49, (AV.bool true)] U fun lp fD gi v7 v8 v9 v10 U =>
  ao v10 (
   cD 7 [fD, gi, v7, v8, v9, (AV.bool false), (AV.int .i64 0)] U fun pg jD nr lx de ic kG v11 U =>
    (bD (some false) de).wp K U (fun v53 U =>
    (aq .lss (BT.mk false false false none) false v11 v53).wp K U (fun iQ U =>
    ao iQ (
     (aH (some (9, 1)) none de v11).wp K U (fun jY U =>
     (av (some (false, 1)) jY U).wp K U (fun tZ U =>
     ad K 173 [jD, tZ] U (ai (fun oZ U =>
     ao oZ (
      (aH (some (9, 1)) none de v11).wp K U (fun qt U =>
      (av (some (false, 1)) qt U).wp K U (fun pP U =>
      ad K 116 [jD, pP] U (ai (fun lF U =>
      (fun ay : St =>
      ar K (aH (some (5, 1)) none ic v11) (fun jq =>
      ar K (av (some (false, 1)) jq ay) (fun v72 =>
      ar K (bE (some [(0, 1), (1, 1), (2, 1), (3, 1), (4, 1), (5, 1)]) (some [AV.int .u8 0, AV.str [], AV.int .i64 0, AV.int .i64 0, AV.int .i64 0, AV.int .i64 0]) none [(0, v72), (4, lF)]) (fun tn =>
      ar K (aq .add (BT.mk false false false none) true nr (AV.int .i64 1)) (fun o0 =>
      ad K 229 [jD, o0] U (ai (fun yO U => cv ((cr jq ++ []) ++ []) ay U /\
      ar K (aA (some (23, 1)) (some [AV.ak]) 2 false [(0, lx), (1, yO)]) (fun v80 =>
      ad K 60 [tn, v80] U (ai (fun vB U => cv ((cr jq ++ []) ++ []) ay U /\
      (aq .neq (BT.mk false false false none) true nr (AV.int .i64 3)).wp K U (fun vC U =>
      lp jD nr vB de ic vC U) (aa R)) (aa R)))) (aa R))))))) U) (aa R))) (aa R)) (aa R)) (
      (aq .add (BT.mk false false false none) true v11 (AV.int .i64 1)).wp K U (fun lE U =>
      pg jD nr lx de ic kG lE U) (aa R))) (aa R))) (aa R)) (aa R)) (
     lp jD nr lx de ic kG U)) (aa R)) (aa R)) (
   al R v7 U)) (aa R)) (aa R)) (aa R))) (aa R))) (aa R) := by
 have iN := X.small
 have DC := Rz lev
 rw [cI]
 refine ⟨bp (by omega) (by omega), ?_⟩
 rw [show ((lev : Int) - 2 + 1) = ((lev + 1 : Nat) : Int) - 2 by omega]
 refine dC (hC f i (lev + 1) (cG _) hi (cG _) (by omega) (by omega) (by omega)) S fun kK j1 vg b1 bP h1 u3 qz S e1 => ?_
 refine Gq h2 h7 ?_
 simp only [bg, bC, List.drop, bq]
 refine ⟨fun mm v0 v1 v7 v8 v9 v10 af => ∃ dp j left b f' again, mm = 2 * (X.L.length - j) + (if again = true then 1 else 0) /\ v0 = .box r 0 /\ v1 = .int .i64 ((lev : Int) - 2) /\ v7 = .ms b 0 left.length 6 43 /\ v8 = G9 lev /\ v9 = Mr lev /\ v10 = .bool again /\ i <= j /\ left.length <= 8 * (j - i) + 1 /\ f' <= f /\ (dp = false -> again = true -> 40 * (X.L.length - j) + 1 <= f') /\ S2 X r ay V dp j (if again = true then ia X.L 0 f' lev left j else .ok left j) [(b, bJ left)] af,
  ⟨_, kK, j1, vg, b1, f, true, rfl, rfl, rfl, rfl, rfl, rfl, rfl, h1, u3, cG _, fun hb _ => by have := qz hb; have := S.hi; omega, by simpa using S⟩, ?_⟩
 clear S
 rintro mm v0 v1 v7 v8 v9 v10 bI ⟨gu, j, left, b, f', again, rfl, rfl, rfl, rfl, rfl, rfl, rfl, dt, hl, zF, kJ, S⟩
 cases again with
 | false =>
   simp only [aE]
   exact rJ (by simpa using S) O (.head _) dt (fun _ => hl)
 | true =>
   simp only [aK]
   simp only [if_true] at S
   refine ⟨fun m2 v0 v1 v7 v8 v9 v10 v11 af => ∃ k : Nat, m2 = (fF lev).length - k /\ v0 = .box r 0 /\ v1 = .int .i64 ((lev : Int) - 2) /\ v7 = .ms b 0 left.length 6 43 /\ v8 = G9 lev /\ v9 = Mr lev /\ v10 = .bool false /\ v11 = .int .i64 (k : Nat) /\ k <= (fF lev).length /\ (gu = false -> ∀ q, q < k -> ∀ y, (fF lev)[q]? = some y -> bl X.L j y.1 = false) /\ af = bI,
    ⟨_, 0, rfl, rfl, rfl, rfl, rfl, rfl, rfl, rfl, Nat.zero_le _, fun _ q hq => by omega, rfl⟩, ?_⟩
   rintro m2 v0 v1 v7 v8 v9 v10 v11 bQ ⟨k, rfl, rfl, rfl, rfl, rfl, rfl, rfl, rfl, hk, fM, rfl⟩
   simp only [Vs, aj, bh, aT]
   refine ⟨fun aL => ?_, fun gk => ?_⟩
   · have aL : k < (fF lev).length := by omega
     obtain ⟨p, hp⟩ : ∃ p, (fF lev)[k]? = some p := ⟨(fF lev)[k], by simp [aL]⟩
     obtain ⟨rest, hw, hd⟩ := ZL hp
     rw [hw, uM]
     refine ⟨by omega, ?_⟩
     rw [hd, mR, bq]
     refine rH S.A.box p.1 ?_
     simp only [bg]
     cases hb : (!gu && bl X.L j p.1) with
     | false =>
       simp only [aE, cI]
       refine ⟨bp (by omega) (by omega), (fF lev).length - (k + 1), by omega, k + 1, rfl, rfl, rfl, rfl, rfl, rfl, rfl, rfl, aL, fun nw q hq y hy => ?_, rfl⟩
       rcases eZ q k with h | h
       · exact fM nw q h y hy
       · have : q = k := by omega
         subst this
         rw [hp] at hy; cases hy
         simpa [nw] using hb
     | true =>
       have nw : gu = false := by cases gu <;> simp_all
       subst nw
       have u6 : bl X.L j p.1 = true := by simpa using hb
       have hjl := cu u6
       simp only [aK]
       rw [uM]
       refine ⟨by omega, ?_⟩
       rw [hd, mR, bq]
       have LJ := kJ rfl rfl
       have hop : jB X.L lev j = some p.2 := by
        rw [D1 X.L j lev h2 h7, Dp (fM rfl) hp u6]; rfl
       cases f' with
       | zero => omega
       | succ f' =>
         rw [ia, hop] at S
         simp only [show ¬ lev = 8 by omega, if_false] at S
         refine AH u6 S fun cz S => ?_
         obtain ⟨TL, Tu, pD⟩ := YK hp
         rw [Tu, Gv]
         refine ⟨by omega, ?_⟩
         rw [pD, tj, fw]
         refine Xn [.int .u8 p.2, .str [], .int .i64 0, .int .i64 0, .int .i64 (bM X.L 0 j), .int .i64 0] rfl ?_
         rw [zc]
         refine ⟨bp (by omega) (by omega), ?_⟩
         rw [show ((lev : Int) - 2 + 1) = ((lev + 1 : Nat) : Int) - 2 by omega]
         refine dC (hC f' (j + 1) (lev + 1) (by omega) hjl (by omega) (by omega) (by omega) (by omega)) S fun sI j5 qh b5 dm h5 FE wX S e5 => ?_
         have hj5 := S.hi
         refine ⟨fun b hb => by simp [cr] at hb, Kw ?_⟩
         refine EH [(b, left), (b5, qh)] (by simp) (.inr ⟨.full, rfl⟩) S (by simp; omega) (by simp) fun b6 gM S e6 => ?_
         refine ⟨fun b hb => by simp [cr] at hb, ?_⟩
         simp only [cg, aj]
         have pX : (([(b, left), (b5, qh)] : List (Nat × List Nd)).map Prod.snd).flatten = left ++ qh := by simp
         rw [pX] at S ⊢
         refine ⟨2 * (X.L.length - j5) + (if (!decide ((lev : Int) - 2 = 3)) = true then 1 else 0), by split <;> simp <;> omega, sI, j5, node p.2 [] 0 0 (bM X.L 0 j) (left ++ qh), b6, f', !decide ((lev : Int) - 2 = 3), rfl, rfl, rfl, rfl, rfl, rfl, rfl, by omega, ?_, by omega, fun hb _ => ?_, ?_⟩
         · rw [bT, eQ]; omega
         · have := wX hb; omega
         · refine (S.re fun _ => ?_).sub (List.Sublist.cons_cons _ (List.nil_sublist _))
           by_cases h5 : lev = 5
           · subst h5; rfl
           · have : ¬ ((lev : Int) - 2 = 3) := by omega
             simp [h5, this]
   · have qA : k = (fF lev).length := by omega
     refine ⟨2 * (X.L.length - j), by simp, gu, j, left, b, f', false, rfl, rfl, rfl, rfl, rfl, rfl, rfl, dt, hl, zF, fun _ h => by simp at h, ?_⟩
     refine S.re fun hb => ?_
     have LJ := kJ hb rfl
     cases f' with
     | zero => omega
     | succ f' =>
       rw [ia, D1 X.L j lev h2 h7, Fm (by subst qA; exact fM hb)]
       rfl
end
end Go.Rip
namespace Go.Rip
open Go.Proofs Go.RowKit
section
variable {X : Rx} {i : Nat}
theorem Qt {f lev : Nat} (hi : i <= X.L.length) (h2 : 2 <= lev) (h8 : lev <= 8) (he : 40 * (X.L.length - i) + (11 - lev) <= f + 1)
 (hC : ∀ f' j qO, f' <= f -> j <= X.L.length -> i <= j -> 2 <= qO -> qO <= 8 -> 40 * (X.L.length - j) + (11 - qO) <= f' -> Cr X 229 [.int .i64 ((qO : Int) - 2)] j (eo X.L 0 f' qO j) 1)
 (hA : lev = 8 -> Cr X 255 [] i (eo X.L 0 f 9 i) 1) : Cr X 229 [.int .i64 ((lev : Int) - 2)] i (eo X.L 0 (f + 1) lev i) 1 := by
 refine ⟨fun r U R bad V hr hs O => ?_, (qK (f + 1)).2.2.2.1 i lev hi (by omega) he, fun ns j h => (qL (f + 1)).2.2.2.1 h⟩
 refine PE ?_
 unfold PD
 have S := S2.start hr hi hs
 have iN := X.small
 refine mE S ?_
 intro jj sU
 have gen : lev <= 7 -> ∀ af, S2 X r U V bad i ((eo X.L 0 f (lev + 1) i).bind fun a j => ia X.L 0 f lev a j) [] af -> jj (.box r 0) (.int .i64 ((lev : Int) - 2)) af := fun h7 af S => sU _ _ _ (Lc hi h2 h7 he hC S O)
 rw [eo] at S
 simp only [show ¬ lev = 9 by omega, if_false] at S
 simp only [aV, aj, aT]
 refine ⟨fun h => ?_, fun h => ?_⟩
 · have : lev = 4 := by omega
   subst this
   simp only [if_true] at S
   refine dL S (fun hb hw bP S => ?_) fun hf S => ?_
   · simp only [aK]
     have aL := cu hw
     refine gz [.int .u8 19, .str [], .int .i64 0, .int .i64 0, .int .i64 (bM X.L 0 i), .int .i64 0] rfl ?_
     refine dC (hC f (i + 1) 4 (cG _) aL (by omega) (by omega) (by omega) (by omega)) S fun qE j3 qg b3 bQ h3 DA lC S e3 => ?_
     have := S.hi
     refine zo ?_
     exact mc [(b3, qg)] (fl := qg) (by simp) (by simp) (.inr ⟨.full, rfl⟩) (by simp) S O (fun _ => rfl) (by omega) (fun h => by omega) (by omega)
   · simp only [aE]
     refine gen (by omega) _ (S.re fun _ => ?_)
     obtain ⟨f', rfl⟩ : ∃ f', f = f' + 1 := ⟨f - 1, by omega⟩
     have : ∀ a j, ia X.L 0 (f' + 1) 4 a j = .ok a j := fun a j => by
      rw [ia, show jB X.L 4 j = none by simp [jB]]
     simp only [this]
     exact (PR.HV _).symm
 · simp only [show ¬ lev = 4 by omega, if_false] at S
   refine ⟨fun h => ?_, fun h => gen (by omega) _ S⟩
   have : lev = 8 := by omega
   subst this
   refine dC (hA rfl) S fun kK j1 vg b1 bP h1 u3 qz S e1 => ?_
   refine ⟨fun mm v0 v6 af => ∃ dp j left b f', mm = X.L.length - j /\ v0 = .box r 0 /\ v6 = .ms b 0 left.length 6 43 /\ i <= j /\ left.length <= 8 * (j - i) + 1 /\ f' <= f /\ (dp = false -> 40 * (X.L.length - j) + 1 <= f') /\ S2 X r U V dp j (ia X.L 0 f' 8 left j) [(b, bJ left)] af,
    ⟨_, kK, j1, vg, b1, f, rfl, rfl, rfl, h1, u3, cG _, fun hb => by have := qz hb; have := S.hi; omega, S⟩, ?_⟩
   clear S
   rintro mm v0 v6 bI ⟨gu, j, left, b, f', rfl, rfl, rfl, dt, hl, zF, kJ, S⟩
   refine rH S.A.box tq ?_
   simp only [bg]
   cases hb : (!gu && bl X.L j tq) with
   | false =>
     simp only [aE]
     refine rJ (S.re fun nw => ?_) O (.head _) dt (fun _ => hl)
     have := kJ nw
     obtain ⟨pz, rfl⟩ : ∃ pz, f' = pz + 1 := ⟨f' - 1, by omega⟩
     have hw : bl X.L j tq = false := by simpa [nw] using hb
     rw [ia, show jB X.L 8 j = none by simp [jB, hw]]
   | true =>
     have nw : gu = false := by cases gu <;> simp_all
     subst nw
     have hw : bl X.L j tq = true := by simpa using hb
     have hjl := cu hw
     have := kJ rfl
     obtain ⟨pz, rfl⟩ : ∃ pz, f' = pz + 1 := ⟨f' - 1, by omega⟩
     simp only [aK]
     rw [ia, show jB X.L 8 j = some 25 by simp [jB, hw]] at S
     simp only [if_true] at S
     refine AH hw S fun cz S => ?_
     refine nV S fun qE j3 n3 dm h3 S => ?_
     have := S.hi
     refine gz [.int .u8 25, .str [], .int .i64 n3, .int .i64 0, .int .i64 (bM X.L 0 j), .int .i64 0] rfl ?_
     refine zo ?_
     refine EH [(b, left)] (by simp) (.inr ⟨.full, rfl⟩) S (by simp; omega) (by simp) fun b6 gM S e6 => ?_
     have pX : (([(b, left)] : List (Nat × List Nd)).map Prod.snd).flatten = left := by simp
     rw [pX] at S ⊢
     refine ⟨X.L.length - j3, by omega, qE, j3, node 25 [] n3 0 (bM X.L 0 j) left, b6, pz, rfl, rfl, rfl, by omega, ?_, by omega, fun hb => by omega, S.sub (List.Sublist.cons_cons _ (List.nil_sublist _))⟩
     rw [bT]; omega
theorem UQ {L : List Tk} {i : Nat} {w : aZ} (h : eP L i 2 = true) : bl L i w = false := by
 unfold eP at h; unfold bl
 split at h
 · rename_i t ht
   have : t.k = 2 := by simpa using h
   simp [this]
 · cases h
theorem Y8 {r : Nat} {ay U : St} {bad : Bool} {V P Q : PR (List Nd)} {nb : List (Nat × List AV)} {R : cS -> St -> Prop} {K' : AV -> St -> Prop} {k : Nat} (S : S2 X r ay V bad i (if eP X.L i k = true then P else Q) nb U)
 (h1 : bad = false -> eP X.L i k = true -> S2 X r ay V false i P nb U -> K' (.bool true) U) (h2 : (bad = false -> eP X.L i k = false) -> S2 X r ay V bad i Q nb U -> K' (.bool false) U) : ad K 174 [.box r 0, .int .u8 k] U (ai K' (aa R)) := by
 refine I8 S.A.box k ?_
 simp only [bg]
 cases hb : (!bad && eP X.L i k) with
 | false =>
   have hf : bad = false -> eP X.L i k = false := fun e => by simpa [e] using hb
   exact h2 hf (S.re fun e => if_neg (by simp [hf e]))
 | true =>
   have nw : bad = false := by cases bad <;> simp_all
   subst nw
   have hk : eP X.L i k = true := by simpa using hb
   exact h1 rfl hk (S.re fun _ => if_pos hk)
theorem RJ {r : Nat} {ay U : St} {bad : Bool} {V : PR (List Nd)} {b1 : Nat} {fL : List (Nat × List AV)} {R : cS -> St -> Prop} {K' : AV -> AV -> AV -> St -> Prop} {m : AV} {fu : Nat}
 (C : ∀ f' j, f' <= fu -> j <= X.L.length -> i <= j -> 40 * (X.L.length - j) + 12 <= f' -> Cr X 270 [] j (gI X.L 0 f' j) 1) {ns : List Nd} {i0 : Nat} (Bq : i0 <= i) (zH : ns.length <= 8 * (i - i0) + 1) (hf : bad = false -> 40 * (X.L.length - i) + 1 <= fu) {q : List Nd -> Nat -> PR (List Nd)}
 (S : S2 X r ay V bad i ((gO X.L 0 fu ns i).bind q) ((b1, bJ ns) :: fL) U)
 (h : ∀ dp j acc b af, i <= j -> acc.length <= 8 * (j - i0) + 1 -> S2 X r ay V dp j (q acc j) ((b, bJ acc) :: fL) af -> K' (.box r 0) m (.ms b 0 acc.length 6 43) af) :
 cD 3 [.box r 0, m, .ms b1 0 ns.length 6 43] U fun lp v0 v3 v4 U =>
  ad K 114 [v0, (AV.str nB)] U (ai (fun bw U =>
  ao bw (
   ad K 270 [v0] U (ai (fun ck U =>
   (dc (some (43, 6)) false v4 ck U).wp K U (fun cn U =>
   lp v0 v3 cn U) (aa R)) (aa R))) (
   K' v0 v3 v4 U)) (aa R)) := by
 refine ⟨fun mm v0 v3 v4 af => ∃ dp j acc b f', mm = X.L.length - j /\ v0 = .box r 0 /\ v3 = m /\ v4 = .ms b 0 acc.length 6 43 /\ i <= j /\ acc.length <= 8 * (j - i0) + 1 /\ f' <= fu /\ (dp = false -> 40 * (X.L.length - j) + 1 <= f') /\ S2 X r ay V dp j ((gO X.L 0 f' acc j).bind q) ((b, bJ acc) :: fL) af,
  ⟨_, bad, i, ns, b1, fu, rfl, rfl, rfl, rfl, cG _, zH, cG _, hf, S⟩, ?_⟩
 rintro mm v0 v3 v4 bI ⟨dp, j, acc, b, f', rfl, rfl, rfl, rfl, dt, Ak, LJ, kJ, S⟩
 have hs := X.small
 have hj := S.hi
 replace S := S.re (W' := if bl X.L j nB = true then (gI X.L 0 (f' - 1) (j + 1)).bind fun b j => (gO X.L 0 (f' - 1) (acc ++ b) j).bind q else q acc j) (fun hb => by
  have := kJ hb
  cases f' with
  | zero => omega
  | succ f' =>
    rw [gO, Nat.add_sub_cancel]
    split
    · cases gI X.L 0 f' (j + 1) <;> rfl
    · rfl)
 refine dL S (fun hb hw bQ S => ?_) fun Ii S => ?_
 · simp only [aK]
   have aL := cu hw
   have Ii := kJ hb
   refine dC (C (f' - 1) _ (by omega) aL (by omega) (by omega)) S fun gu j2 qf b2 cz mK wZ hg S e => ?_
   have abU := S.hi
   refine GC (nb1 := [(b2, bJ qf)]) S (.inl (by simp)) (by omega) fun b3 dm S => ?_
   refine ⟨X.L.length - j2, by omega, gu, j2, acc ++ qf, b3, f' - 1, rfl, rfl, rfl, rfl, by omega, by rw [eQ]; omega, by omega, fun hb => by have := hg hb; omega, ?_⟩
   exact S.sub (List.Sublist.cons_cons _ (List.Sublist.cons _ (List.Sublist.refl _)))
 · simp only [aE]
   exact h dp j acc b bI dt Ak S
end
end Go.Rip
namespace Go.Rip
open Go.Proofs Go.RowKit
section
variable {X : Rx} {i : Nat}
theorem Ux {f : Nat} (hi : i <= X.L.length) (he : 40 * (X.L.length - i) + 1 <= f + 1)
 (hT : ∀ j, j <= X.L.length -> i + 1 <= j -> Cr X 120 [] j (fy X.L 0 f j) 1)
 (hR : ∀ f' j, f' <= f -> j <= X.L.length -> i + 1 <= j -> 40 * (X.L.length - j) + 12 <= f' -> Cr X 270 [] j (gI X.L 0 f' j) 1) : Cr X 255 [] i (iU X.L 0 (f + 1) i) 1 := by
 refine ⟨fun r U R bad V hr hs O => ?_, (qK (f + 1)).2.2.2.2.2.1 i hi he, fun ns j h => (qL (f + 1)).2.2.2.2.2.1 h⟩
 refine PU ?_
 unfold PT
 have S := S2.start hr hi hs
 have iN := X.small
 rw [iU] at S
 refine mE S ?_
 refine gz [.int .u8 0, .str [], .int .i64 0, .int .i64 0, .int .i64 (bM X.L 0 i), .int .i64 0] rfl ?_
 refine GD S fun bk bP S => ?_
 intro jj sU
 have fin : ∀ (kd : Int) (x : aZ) (n : Int) (j : Nat) (dp : Bool) (W : PR (List Nd)) (af : St), i <= j -> S2 X r U V dp j W [(bk, bx kd x n 0 (bM X.L 0 i))] af -> (dp = false -> W = .ok (node kd x n 0 (bM X.L 0 i) []) j) -> jj (.box bk 0) af := fun kd x n j dp W af dt S hW => by
  refine sU _ _ ?_
  refine rI S (.head _) ?_
  exact mc [] rfl (by simp) (.inl ⟨rfl, rfl⟩) (by simp) S O hW dt (fun h => by simp) (by simp)
 replace S := S.re (W' := if eP X.L i 2 = true then (fQ X.L i).bind fun n j => .ok (node 26 [] n 0 (bM X.L 0 i) []) j
  else if bl X.L i gq = true then .ok (node 27 [] 0 0 (bM X.L 0 i) []) (i + 1)
  else if bl X.L i gG = true then .ok (node 28 [] 0 0 (bM X.L 0 i) []) (i + 1)
  else if bl X.L i jJ = true then .ok (node 29 [] 0 0 (bM X.L 0 i) []) (i + 1)
  else if bl X.L i kZ = true then .ok (node 30 [] 0 0 (bM X.L 0 i) []) (i + 1)
  else if bl X.L i mS = true then (dM X.L (i + 1)).bind fun x j => .ok (node 31 x 0 0 (bM X.L 0 i) []) j
  else if bl X.L i o8 = true then (dM X.L (i + 1)).bind fun x j => .ok (node 32 x 0 0 (bM X.L 0 i) []) j
  else if bl X.L i fR = true then (fy X.L 0 f (i + 1)).bind fun a j => (bm X.L eF j).bind fun _ j => .ok a j
  else (dM X.L i).bind fun x j => if bl X.L j fR = true then (gI X.L 0 f (j + 1)).bind fun a j => (gO X.L 0 f a j).bind fun a j => (bm X.L eF j).bind fun _ j => .ok (node 34 x 0 0 (bM X.L 0 i) a) j
   else .ok (node 33 x 0 0 (bM X.L 0 i) []) j) (fun _ => by
  by_cases h : eP X.L i 2 = true
  · simp [h, UQ h]
  · simp [h])
 refine Y8 S (fun hb hk S => ?_) fun Bl S => ?_
 · simp only [aK]
   refine nV S fun kK j1 n1 bI h1 S => ?_
   refine fe [] S fun bQ S => ?_
   refine KF [] S fun cz S => ?_
   exact fin _ _ _ _ _ _ _ (by omega) S fun _ => rfl
 simp only [aE]
 refine dL S (fun hb hw bI S => ?_) fun kJ S => ?_
 · simp only [aK]
   refine fe [] S fun bQ S => ?_
   exact fin _ _ _ _ _ _ _ (by omega) S fun _ => rfl
 simp only [aE]
 refine dL S (fun hb hw bI S => ?_) fun kJ S => ?_
 · simp only [aK]
   refine fe [] S fun bQ S => ?_
   exact fin _ _ _ _ _ _ _ (by omega) S fun _ => rfl
 simp only [aE]
 refine dL S (fun hb hw bI S => ?_) fun kJ S => ?_
 · simp only [aK]
   refine fe [] S fun bQ S => ?_
   exact fin _ _ _ _ _ _ _ (by omega) S fun _ => rfl
 simp only [aE]
 refine dL S (fun hb hw bI S => ?_) fun kJ S => ?_
 · simp only [aK]
   refine fe [] S fun bQ S => ?_
   exact fin _ _ _ _ _ _ _ (by omega) S fun _ => rfl
 simp only [aE]
 refine dL S (fun hb hw bI S => ?_) fun kJ S => ?_
 · simp only [aK]
   refine nh S fun kK j1 x bQ h1 S => ?_
   refine fe [] S fun cz S => ?_
   refine mD [] S fun dm S => ?_
   exact fin _ _ _ _ _ _ _ (by omega) S fun _ => rfl
 simp only [aE]
 refine dL S (fun hb hw bI S => ?_) fun kJ S => ?_
 · simp only [aK]
   refine nh S fun kK j1 x bQ h1 S => ?_
   refine fe [] S fun cz S => ?_
   refine mD [] S fun dm S => ?_
   exact fin _ _ _ _ _ _ _ (by omega) S fun _ => rfl
 simp only [aE]
 refine dL S (fun hb hw bI S => ?_) fun kJ S => ?_
 · simp only [aK]
   have aL := cu hw
   refine dC (hT _ aL (by omega)) S fun kK j1 vg b1 bQ h1 u3 qz S e1 => ?_
   refine dD S fun gu j2 a2 cz h2 _ S => ?_
   exact rJ S O (.head _) (by omega) (fun _ => by omega)
 simp only [aE]
 refine nh S fun kK j1 x bQ h1 S => ?_
 refine fe [] S fun cz S => ?_
 refine mD [] S fun dm S => ?_
 refine dL S (fun hb hw gM S => ?_) fun Ii S => ?_
 · simp only [aK]
   have aL := cu hw
   refine fe [] S fun mT S => ?_
   refine dC (hR f _ (cG _) aL (by omega) (by omega)) S fun qE j3 qg b3 ue h3 DA lC S e3 => ?_
   refine RJ (i0 := j1 + 1) (fun f' j zF hj dt LJ => hR f' j zF hj (by omega) LJ) h3 DA (fun hb => by have := lC hb; have := S.hi; omega) S fun xv j4 acc b4 tu h4 Td S => ?_
   refine dD S fun sI j5 a5 qx h5 _ S => ?_
   have := S.hi
   refine rI S (.tail _ (.head _)) ?_
   refine zo ?_
   exact mc [(b4, acc)] (fl := acc) (by simp) (by simp) (.inr ⟨.full, rfl⟩) (by simp) S O (fun _ => rfl) (by omega) (fun h => by omega) (by omega)
 · simp only [aE]
   exact fin _ _ _ _ _ _ _ (by omega) S fun _ => rfl
theorem Xg {f : Nat} (hi : i <= X.L.length) (he : 40 * (X.L.length - i) + 12 <= f + 1)
 (hF : ∀ j, j <= X.L.length -> i + 1 <= j -> Cr X 176 [] j (bR X.L 0 f j) 1)
 (hT : Cr X 120 [] i (fy X.L 0 f i) 1) : Cr X 270 [] i (gI X.L 0 (f + 1) i) 1 := by
 refine ⟨fun r U R bad V hr hs O => ?_, (qK (f + 1)).2.2.2.2.2.2.2 i hi he, fun ns j h => (qL (f + 1)).2.2.2.2.2.2.2 h⟩
 refine P0 ?_
 unfold PZ
 have S := S2.start hr hi hs
 have iN := X.small
 rw [gI] at S
 refine mE S ?_
 refine gz [.int .u8 0, .str [], .int .i64 0, .int .i64 0, .int .i64 (bM X.L 0 i), .int .i64 0] rfl ?_
 refine GD S fun bk bP S => ?_
 refine dL S (fun hb hw bI S => ?_) fun Bl S => ?_
 · simp only [aK]
   refine fe [] S fun bQ S => ?_
   refine dD S fun kK j1 a1 cz h1 _ S => ?_
   replace S := S.re (W' := (jK X.L 0 j1).bind fun a j => (js X.L (jK X.L 0) (X.L.length + 1) a j).bind fun a j => (bm X.L eF j).bind fun _ j => (bR X.L 0 f j).bind fun b j => .ok (node 35 [] 0 0 (bM X.L 0 i) (a ++ b)) j) (fun _ => by
    unfold jr; cases jK X.L 0 j1 <;> rfl)
   refine dC (Cx S.hi) S fun gu j2 qf b2 dm h2 wZ Dv S e2 => ?_
   refine AE (c := 1) (i0 := j1) (fun i hi => Cx hi) (by omega) h2 wZ (fun hb => by omega) S fun qE j3 acc b3 gM h3 DA S => ?_
   refine dD S fun xv j4 a4 mT h4 _ S => ?_
   refine vr S (.tail _ (.head _)) ?_
   have S0 := S
   refine dC (hF _ S.hi (by omega)) S fun sI j5 qh b5 ue h5 FE wX S e5 => ?_
   have := S.hi
   refine ⟨S0.same (.tail _ (.head _)) e5, Kw ?_⟩
   exact sF (Q := fun U => cv _ mT U) [(b3, acc), (b5, qh)] (fl := acc ++ qh) (by simp) (by simp) (.inr ⟨.full, rfl⟩) (by simp) S O (fun _ => rfl) (by omega) (fun h => by simp; omega) (by simp; omega) fun af e => S0.same (.tail _ (.head _)) (e5.trans e.rz)
 simp only [aE]
 refine dL S (fun hb hw bI S => ?_) fun Bl S => ?_
 · simp only [aK]
   refine fe [] S fun bQ S => ?_
   refine dD S fun kK j1 a1 cz h1 _ S => ?_
   refine dC (hF _ S.hi (by omega)) S fun gu j2 qf b2 dm h2 wZ Dv S e2 => ?_
   refine dD S fun qE j3 a3 gM h3 _ S => ?_
   refine dD S fun xv j4 a4 mT h4 _ S => ?_
   refine dC (Cx S.hi) S fun sI j5 qh b5 ue h5 FE wX S e5 => ?_
   refine dD S fun Jo j6 a6 tu h6 _ S => ?_
   refine dC (hF _ S.hi (by omega)) S fun Jp j7 ye b7 qx h7 Te Ik S e7 => ?_
   refine dD S fun ac4 j8 a8 ZN h8 _ S => ?_
   have := S.hi
   refine rI S (.tail _ (.tail _ (.tail _ (.head _)))) ?_
   refine abp ?_
   exact mc [(b2, qf), (b5, qh), (b7, ye)] (fl := qf ++ qh ++ ye) (by simp) (by simp) (.inr ⟨.full, rfl⟩) (by simp) S O (fun _ => rfl) (by omega) (fun h => by simp; omega) (by simp; omega)
 simp only [aE]
 exact C6 hT S O (cG _)
end
end Go.Rip
namespace Go.Rip
open Go.Proofs Go.RowKit
section
variable {X : Rx} {i : Nat}
theorem RN {r : Nat} {U : St} {R : cS -> St -> Prop} (hr : U.box r = some (rr X i false)) (h : R (.ret (.bool (oF X.L i))) U) : ad K 177 [.box r 0] U R := by
 refine O8 ?_
 unfold O7
 refine rH hr fA ?_
 simp only [bg, dk, Bool.true_and]
 unfold oF at h
 cases h1 : bl X.L i fA with
 | true =>
   rw [h1] at h
   simp only [aS, show (true == false) = false from rfl, aM, bz, aE, aF, if_true, aj]
   exact al.mk (by simpa using h)
 | false =>
   rw [h1] at h
   simp only [aS, dN, aM, bG, aJ, aK]
   refine rH hr jS ?_
   simp only [bg, dk, Bool.true_and]
   cases h2 : bl X.L i jS with
   | true =>
     rw [h2] at h
     simp only [aF, bH, if_false, aj, aS, show (true == false) = false from rfl, aM, bz, aE, if_true]
     exact al.mk (by simpa using h)
   | false =>
     rw [h2] at h
     simp only [aF, bH, if_false, aj, aS, dN, aM, bG, aJ, aK]
     refine rH hr ff ?_
     simp only [bg, dk, Bool.true_and, aF, bH, if_false, aj]
     exact al.mk (by simpa using h)
theorem RO {f : Nat} (hi : i <= X.L.length) (he : 40 * (X.L.length - i) + 11 <= f + 1)
 (hF : ∀ f' j, f' <= f -> j <= X.L.length -> i <= j -> 40 * (X.L.length - j) + 10 <= f' -> Cr X 176 [] j (bR X.L 0 f' j) 1) : Cr X 120 [] i (fy X.L 0 (f + 1) i) 1 := by
 refine ⟨fun r U R bad V hr hs O => ?_, (qK (f + 1)).1 i hi he, fun ns j h => (qL (f + 1)).1 h⟩
 refine NI ?_
 unfold NH
 have S := S2.start hr hi hs
 have iN := X.small
 rw [fy] at S
 refine dC (hF f i (cG _) hi (cG _) (by omega)) S fun kK j1 vg b1 bP h1 u3 qz S e1 => ?_
 intro jj sU
 have fin : ∀ (acc : List Nd) (at_ : Int) (many j b : Nat) (dp : Bool) (W : PR (List Nd)) (af : St), i <= j -> 1 <= many -> acc.length + 7 * (many - 1) <= 8 * (j - i) + 1 -> S2 X r U V dp j W [(b, bJ acc)] af -> (dp = false -> W = .ok (if many = 1 then acc else node 9 [] 0 0 at_ acc) j) ->
  jj (.ms b 0 acc.length 6 43) (.int .i64 at_) (.int .i64 many) af := fun acc at_ many j b dp W af dt hm hn S hW => by
  refine sU _ _ _ _ ?_
  simp only [aV, aj, aT]
  refine ⟨fun h => ?_, fun h => ?_⟩
  · have h : many = 1 := by omega
    subst h
    exact rJ (S.re fun hb => by rw [hW hb, if_pos rfl]) O (.head _) dt (fun _ => by omega)
  · have cH : many ≠ 1 := by omega
    have := S.hi
    refine gz [.int .u8 9, .str [], .int .i64 0, .int .i64 0, .int .i64 at_, .int .i64 0] rfl ?_
    refine zo ?_
    exact mc [(b, acc)] (fl := acc) (by simp) (by simp) (.inr ⟨.full, rfl⟩) (by simp) S O (fun hb => by rw [hW hb, if_neg cH]) dt (fun h => by omega) (by omega)
 refine ⟨fun mm v0 v3 v4 v5 af => ∃ dp j acc b many f' at_, mm = X.L.length - j /\ v0 = .box r 0 /\ v3 = .ms b 0 acc.length 6 43 /\ v4 = .int .i64 at_ /\ v5 = .int .i64 (many : Nat) /\ i <= j /\ 1 <= many /\ many <= 1 + j /\ acc.length + 7 * (many - 1) <= 8 * (j - i) + 1 /\ f' <= f /\ (dp = false -> 40 * (X.L.length - j) + 1 <= f') /\ (dp = false -> many = 1 -> bM X.L 0 j = bM X.L 0 j1) /\ (many ≠ 1 -> at_ = bM X.L 0 j1) /\ S2 X r U V dp j (jm X.L 0 f' (bM X.L 0 j1) acc many j) [(b, bJ acc)] af,
  ⟨_, kK, j1, vg, b1, 1, f, 0, rfl, rfl, rfl, rfl, rfl, h1, cG _, by omega, by omega, cG _, fun hb => by have := qz hb; have := S.hi; omega, fun _ _ => rfl, fun h => absurd rfl h, S⟩, ?_⟩
 clear S
 rintro mm v0 v3 v4 v5 bI ⟨gu, j, acc, b, many, f', at_, rfl, rfl, rfl, rfl, rfl, dt, Dz, hmj, hl, zF, kJ, Yo, xT, S⟩
 have hj := S.hi
 have qB := S.A.box
 have stop : (gu = false -> ¬ (bl X.L j gE = true /\ j + 1 < X.L.length /\ oF X.L (j + 1) = false)) -> ∀ af, S2 X r U V gu j (jm X.L 0 f' (bM X.L 0 j1) acc many j) [(b, bJ acc)] af -> jj (.ms b 0 acc.length 6 43) (.int .i64 at_) (.int .i64 many) af := fun hn af S => by
  refine fin acc at_ many j b gu _ af dt Dz hl S fun hb => ?_
  have := kJ hb
  obtain ⟨pz, rfl⟩ : ∃ pz, f' = pz + 1 := ⟨f' - 1, by omega⟩
  rw [jm, if_neg (hn hb)]
  by_cases h : many = 1
  · simp [h]
  · simp only [h, if_false, xT h]
 refine ⟨[r], ?_⟩
 refine rH qB gE ?_
 simp only [bg]
 cases hb : (!gu && bl X.L j gE) with
 | false =>
   refine ⟨fun _ _ => rfl, ?_⟩
   iterate 3 refine oY rfl ?_
   refine ⟨by simp [cr], ?_⟩
   iterate 5 refine oY rfl ?_
   refine ⟨by simp [cr], ?_⟩
   iterate 3 refine oY rfl ?_
   refine uA ?_
   simp only [aE]
   refine stop (fun e h => ?_) _ S
   rw [e, h.1] at hb; cases hb
 | true =>
   have nw : gu = false := by cases gu <;> simp_all
   subst nw
   have hw : bl X.L j gE = true := by simpa using hb
   have aL := cu hw
   have LJ := kJ rfl
   refine ⟨fun _ _ => rfl, ?_⟩
   refine dX rfl rfl ?_
   refine dX rfl rfl ?_
   refine dX rfl rfl ?_
   refine ⟨by simp [cr], ?_⟩
   refine qk (o := 1) rfl qB rfl rfl ?_
   refine Kx rfl ⟨bp (by omega) (by omega), ?_⟩
   refine dX rfl rfl ?_
   refine dX rfl rfl ?_
   refine dX rfl rfl ?_
   refine ⟨by simp [cr], ?_⟩
   refine qk (o := 0) rfl qB rfl rfl ?_
   refine Ky rfl X.tr ?_
   by_cases mr : j + 1 < X.L.length
   · refine dX (v := .bool true) rfl (by rw [bh]; simp; omega) ?_
     refine uB ?_
     simp only [aK, bu, aj, aR, bW]
     rw [eG qB]
     simp only [rr, List.drop, bq]
     refine AH hw S fun cz S4 => ?_
     refine RN S4.A.box ?_
     simp only [bg]
     cases hit : oF X.L (j + 1) with
     | true =>
       simp only [aK]
       rw [cT S4.A.box]
       refine ⟨⟨rfl, rfl, by simp [rr]⟩, ?_⟩
       have nx : (cz.set r (.box (az (rr X (j + 1) false) 1 (aC (.int .i64 (j : Nat)))))).box r = some (rr X j false) := by rw [bf]; simp [az, rr]
       exact stop (fun _ h => by rw [hit] at h; cases h.2.2) _ ⟨⟨nx, S4.A.ex.set (.inr rfl)⟩, hj, S4.sp, S4.own.fB ((gj.refl _ _).set (.inr rfl))⟩
     | false =>
       simp only [aE]
       obtain ⟨pz, rfl⟩ : ∃ pz, f' = pz + 1 := ⟨f' - 1, by omega⟩
       rw [jm, if_pos ⟨hw, mr, hit⟩] at S4
       intro j2 mK
       have step : ∀ a', a' = bM X.L 0 j1 -> j2 (.box r 0) (.ms b 0 acc.length 6 43) (.int .i64 a') (.int .i64 many) cz := fun a' ha => by
        refine mK _ _ _ _ _ ?_
        refine dC (hF pz (j + 1) (by omega) aL (by omega) (by omega)) S4 fun sI j5 qh b5 dm h5 FE wX S e5 => ?_
        have := S.hi
        refine GC (nb1 := [(b5, bJ qh)]) S (.inl (by simp)) (by omega) fun b6 gM S => ?_
        rw [cI]
        refine ⟨bp (by omega) (by omega), X.L.length - j5, by omega, sI, j5, acc ++ qh, b6, many + 1, pz, a', rfl, rfl, rfl, rfl, by simp, by omega, by omega, by omega, by rw [eQ]; omega, by omega, fun hb => by have := wX hb; omega, fun _ h => by omega, fun _ => ha, ?_⟩
        exact S.sub (List.Sublist.cons_cons _ (List.nil_sublist _))
       simp only [aV, aj, aT]
       refine ⟨fun h => step _ (Yo rfl (by omega)), fun h => step _ (xT (by omega))⟩
   · refine dX (v := .bool false) rfl (by rw [bh]; simp; omega) ?_
     refine uB ?_
     simp only [aE]
     exact stop (fun _ h => mr h.2.1) _ S
end
end Go.Rip
namespace Go.Rip
open Go.Proofs Go.RowKit
structure Vw (X : Rx) (fu : Nat) : Prop where
 term : ∀ f', f' <= fu -> ∀ j, j <= X.L.length -> 40 * (X.L.length - j) + 11 <= f' -> Cr X 120 [] j (fy X.L 0 f' j) 1
 first : ∀ f', f' <= fu -> ∀ j, j <= X.L.length -> 40 * (X.L.length - j) + 10 <= f' -> Cr X 176 [] j (bR X.L 0 f' j) 1
 chain : ∀ f', f' <= fu -> ∀ j lev, j <= X.L.length -> 2 <= lev -> lev <= 8 -> 40 * (X.L.length - j) + (11 - lev) <= f' -> Cr X 229 [.int .i64 ((lev : Int) - 2)] j (eo X.L 0 f' lev j) 1
 atom : ∀ f', f' <= fu -> ∀ j, j <= X.L.length -> 40 * (X.L.length - j) + 1 <= f' -> Cr X 255 [] j (iU X.L 0 f' j) 1
 arg : ∀ f', f' <= fu -> ∀ j, j <= X.L.length -> 40 * (X.L.length - j) + 12 <= f' -> Cr X 270 [] j (gI X.L 0 f' j) 1
theorem Xl (X : Rx) (fu : Nat) : Vw X fu := by
 induction fu with
 | zero => constructor <;> intros <;> omega
 | succ fu B =>
   have st : ∀ {f' : Nat}, f' <= fu + 1 -> f' <= fu \/ f' = fu + 1 := fun h => by omega
   refine ⟨fun f' hf j hj he => ?_, fun f' hf j hj he => ?_, fun f' hf j lev hj h2 h8 he => ?_, fun f' hf j hj he => ?_, fun f' hf j hj he => ?_⟩
   · rcases st hf with h | rfl
     · exact B.term f' h j hj he
     · exact RO hj he fun pz q h1 h2 h3 h4 => B.first pz h1 q h2 h4
   · rcases st hf with h | rfl
     · exact B.first f' h j hj he
     · exact QG hj he (fun q h1 h2 => B.first fu (cG _) q h1 (by omega)) (B.chain fu (cG _) j 2 hj (by omega) (by omega) (by omega))
   · rcases st hf with h | rfl
     · exact B.chain f' h j lev hj h2 h8 he
     · refine Qt hj h2 h8 he (fun pz q qO h1 h3 h4 h5 h6 h7 => B.chain pz h1 q qO h3 h5 h6 h7) fun h => ?_
       subst h
       obtain ⟨g, rfl⟩ : ∃ g, fu = g + 1 := ⟨fu - 1, by omega⟩
       rw [eo]
       simp only [if_true]
       exact B.atom g (by omega) j hj (by omega)
   · rcases st hf with h | rfl
     · exact B.atom f' h j hj he
     · exact Ux hj he (fun q h1 h2 => B.term fu (cG _) q h1 (by omega)) fun pz q h1 h2 h3 h4 => B.arg pz h1 q h2 h4
   · rcases st hf with h | rfl
     · exact B.arg f' h j hj he
     · exact Xg hj he (fun q h1 h2 => B.first fu (cG _) q h1 (by omega)) (B.term fu (cG _) j hj (by omega))
section
variable {X : Rx} {r i : Nat} {bad : Bool} {ay U : St} {V W W' : PR (List Nd)} {nb : List (Nat × List AV)} {R : cS -> St -> Prop} {K' : AV -> St -> Prop} {Kp : AV -> St -> Prop}
theorem ZG {e : Nat} {z x y u : AV} (hx : x.cN = true) (hc : aC x = [x]) (hy : y.cN = true) (hd : aC y = [y]) (hu : u.cN = true) (he : aC u = [u]) (h : K' (.vec 3 .full [x, y, u]) U) : (aA (some (e, 1)) (some [z]) 3 false [(0, x), (1, y), (2, u)]).wp K U K' Kp := by
 rw [dE]
 refine ⟨by omega, ?_⟩
 rw [c6 (o := 0) (s := 1) rfl]
 refine ⟨⟨hx, by rw [hc]; rfl, by simp [bB]⟩, ?_⟩
 rw [c6 (o := 1) (s := 1) rfl]
 refine ⟨⟨hy, by rw [hd]; rfl, by rw [hc]; simp [bB, az]⟩, ?_⟩
 rw [c6 (o := 2) (s := 1) rfl]
 refine ⟨⟨hu, by rw [he]; rfl, by rw [hc, hd]; simp [bB, az]⟩, ?_⟩
 rw [er, hc, hd, he]
 exact ⟨rfl, h⟩
theorem Vh {a kd : Int} (S : S2 X r ay V bad i W nb U) (h : ∀ k af, S2 X r ay V bad i W ((k, bx kd [] 0 0 a) :: nb) af -> K' (.box k 0) af) :
 (aw.cJ [AV.int .u8 0, AV.str [], AV.int .i64 0, AV.int .i64 0, AV.int .i64 0, AV.int .i64 0]).wp K U (fun v3 U => (aD (some (true, 6)) v3 (.agg [.int .u8 kd, .str [], .int .i64 0, .int .i64 0, .int .i64 a, .int .i64 0]) U).wp K U (fun _ U => K' v3 U) Kp) Kp :=
 M4 S fun b S => vu (nb1 := []) S rfl ⟨rfl, rfl, by simp⟩ fun af S => h b af S
theorem Vi {kind : Int} {text : aZ} {n m at_ sz : Int} {i0 c : Nat} {fl : List Nd} {cp : kh} {vs : List AV} {nss : List (List Nd)} (hk : SM U vs nss) (pX : nss.flatten = fl) (pF : vs.length <= 100) (S : S2 X r ay V bad i W nb U) (O : sH X r ay R V i0 c) (hW : bad = false -> W = .ok (node kind text n m at_ fl) i)
 (hi : i0 <= i) (hn : bad = true -> fl.length + 1 <= 8 * (i - i0) + c) (hl : fl.length <= 1000000) : ad K 60 [.agg [.int .u8 kind, .str text, .int .i64 n, .int .i64 m, .int .i64 at_, .int .i64 sz], .vec vs.length cp vs] U (ai (fun v U => al R v U) (aa R)) := by
 subst pX
 refine Gi (.inr ⟨cp, rfl⟩) hk hl pF fun b af hb nx e => ?_
 have cH : b ≠ r := fun e => dJ S.A.box (e ▸ hb)
 have S' : S2 X r ay V bad i W ((b, bJ (node kind text n m at_ nss.flatten)) :: nb) af := ⟨S.A.trans (.pK S.A.box e), S.hi, S.sp, S.own.cons e.rz cH (S.A.ex.fresh cH hb) hb nx⟩
 exact rJ (S'.re hW) O (.head _) hi hn
def yC (L : List Tk) (f : Nat) (A k : Int) (x : aZ) (a : List Nd) (j : Nat) : PR (List Nd) :=
 (bm L ja j).bind fun _ j => (fJ L 0 j).bind fun b j => (bm L lJ j).bind fun _ j => (fy L 0 f j).bind fun c j =>
   (bm L gE j).bind fun _ j => .ok (node k x 0 0 A (a ++ b ++ c)) j
def zf (L : List Tk) (f : Nat) (A k : Int) (j : Nat) : PR (List Nd) :=
 (dM L j).bind fun x j => (bm L fR j).bind fun _ j =>
   if bl L j eF = true then yC L f A k x [] (j + 1) else (gm L 0 f j).bind fun a j => (js L (gm L 0 f) f a j).bind fun a j => (bm L eF j).bind fun _ j => yC L f A k x a j
theorem Re {L : List Tk} {f i : Nat} : gB L 0 f i = if bl L i fA = true then (dM L (i + 1)).bind fun x j => (bm L ja j).bind fun _ j => (lI L 0 f j).bind fun a j => (bm L gE j).bind fun _ j => .ok (node 2 x 0 0 (bM L 0 i) a) j
 else if bl L i jS = true then zf L f (bM L 0 i) 3 (i + 1) else (bm L ff i).bind fun _ j => zf L f (bM L 0 i) 4 j := by
 have Tn : ∀ k j, ((dM L j).bind fun x j => (bm L fR j).bind fun _ j =>
  (if bl L j eF = true then .ok [] j else jr L (gm L 0 f) f j).bind fun a j =>
  (bm L eF j).bind fun _ j => (bm L ja j).bind fun _ j => (fJ L 0 j).bind fun b j => (bm L lJ j).bind fun _ j => (fy L 0 f j).bind fun c j =>
  (bm L gE j).bind fun _ j => .ok (node k x 0 0 (bM L 0 i) (a ++ b ++ c)) j) = zf L f (bM L 0 i) k j := fun k j => by
  unfold zf yC
  cases dM L j with
  | ok x j =>
    simp only [PR.bind]
    cases bm L fR j with
    | ok u j =>
      simp only [PR.bind]
      by_cases h : bl L j eF = true
      · simp only [h, if_true, bm, PR.bind]
      · simp only [h, if_false, bH]
        unfold jr
        cases gm L 0 f j <;> rfl
    | bad j => rfl
    | out => rfl
  | bad j => rfl
  | out => rfl
 unfold gB
 split
 · rfl
 · split
   · exact Tn 3 (i + 1)
   · cases bm L ff i with
     | ok u j => exact Tn 4 j
     | bad j => rfl
     | out => rfl
end
end Go.Rip
namespace Go.Rip
open Go.Proofs Go.RowKit
section
variable {X : Rx} {i : Nat}
theorem IA {f : Nat} (hi : i <= X.L.length) (hf : X.L.length < f) (he : 40 * (X.L.length - i) + 11 <= f) : Cr X 58 [] i (gB X.L 0 f i) 5 := by
 refine ⟨fun r U R bad V hr hs O => ?_, F3 hi he hf, fun ns j h => xZ h⟩
 refine R5 ?_
 unfold T1
 have S := S2.start hr hi hs
 have iN := X.small
 rw [Re] at S
 refine mE S ?_
 refine gz [.int .u8 4, .str [], .int .i64 0, .int .i64 0, .int .i64 (bM X.L 0 i), .int .i64 0] rfl ?_
 refine Vh S fun bk bP S => ?_
 refine dL S (fun hb hw bI S => ?_) fun Bl S => ?_
 · simp only [aK]
   refine nh S fun kK j1 x bQ h1 S => ?_
   refine fe [] S fun cz S => ?_
   refine mD [] S fun dm S => ?_
   refine dD S fun gu j2 a2 gM h2 _ S => ?_
   refine dC (IE S.hi hf) S fun qE j3 qg b3 mT h3 DA lC S e3 => ?_
   refine dD S fun xv j4 a4 ue h4 _ S => ?_
   have := S.hi
   refine rI S (.tail _ (.head _)) ?_
   refine zo ?_
   exact mc [(b3, qg)] (fl := qg) (by simp) (by simp) (.inr ⟨.full, rfl⟩) (by simp) S O (fun _ => rfl) (by omega) (fun h => by omega) (by omega)
 simp only [aE]
 intro jj sU
 have rest : ∀ (kd : Int) (p : Nat) (dp : Bool) (af : St), i <= p -> S2 X r U V dp p (zf X.L f (bM X.L 0 i) kd p) [(bk, bx kd [] 0 0 (bM X.L 0 i))] af -> jj (.box r 0) (.box bk 0) af := by
  intro kd p dp af hp S
  refine sU _ _ _ ?_
  unfold zf at S
  refine nh S fun kK j1 x bQ h1 S => ?_
  refine mD [] S fun cz S => ?_
  refine dD S fun gu j2 a2 dm h2 _ S => ?_
  intro j3 Dx
  have wA : ∀ (v5 : AV) (ns : List Nd) (TE : List (Nat × List AV)) (q : Nat) (dp : Bool) (af : St), i <= q -> ns.length <= 8 * (q - i) + 2 -> (v5 = .ak /\ ns = [] /\ TE = [] \/ ∃ b, v5 = .ms b 0 ns.length 6 43 /\ TE = [(b, bJ ns)]) -> S2 X r U V dp q (yC X.L f (bM X.L 0 i) kd x ns q) (TE ++ [(bk, bx kd x 0 0 (bM X.L 0 i))]) af -> j3 (.box r 0) (.box bk 0) v5 af := by
   intro v5 ns TE q dp af hq zH hv S
   refine Dx _ _ _ _ ?_
   unfold yC at S
   refine dD S fun qE q3 a3 gM h3 _ S => ?_
   refine dC (uR S.hi) S fun xv q4 Gj b4 mT h4 Td Ij S e4 => ?_
   refine dD S fun sI q5 a5 ue h5 _ S => ?_
   refine dC ((Xl X f).term f (cG _) _ S.hi (by omega)) S fun Jo q6 IP b6 tu h6 hn6 S6 S e6 => ?_
   refine dD S fun Jp q7 a7 qx h7 _ S => ?_
   have := S.hi
   refine rI (bk := bk) (kind := kd) (text := x) (n := 0) (m := 0) (at_ := bM X.L 0 i) S (by simp) ?_
   have L6 : v5.cN = true /\ aC v5 = [v5] := by
    rcases hv with ⟨rfl, _⟩ | ⟨b, rfl, _⟩ <;> exact ⟨rfl, rfl⟩
   refine ZG L6.1 L6.2 rfl rfl rfl rfl ?_
   have LL : gH qx v5 ns := by
    rcases hv with ⟨rfl, rfl, _⟩ | ⟨b, rfl, rfl⟩
    · exact .inl (.inl ⟨rfl, rfl⟩)
    · exact .inr ⟨b, rfl, (S.own.own (b, bJ ns) (by simp)).2.1⟩
   have oA : gH qx (.ms b4 0 Gj.length 6 43) Gj := .inr ⟨b4, rfl, (S.own.own (b4, bJ Gj) (by simp)).2.1⟩
   have fY : gH qx (.ms b6 0 IP.length 6 43) IP := .inr ⟨b6, rfl, (S.own.own (b6, bJ IP) (by simp)).2.1⟩
   refine Vi (vs := [v5, .ms b4 0 Gj.length 6 43, .ms b6 0 IP.length 6 43]) (nss := [ns, Gj, IP]) (fl := ns ++ Gj ++ IP) ⟨rfl, fun k v l h1 h2 => ?_⟩ (by simp) (by simp) S O (fun _ => rfl) (by omega) (fun h => by simp; omega) (by simp; omega)
   match k, h1, h2 with
   | 0, h1, h2 => cases h1; cases h2; exact LL
   | 1, h1, h2 => cases h1; cases h2; exact oA
   | 2, h1, h2 => cases h1; cases h2; exact fY
   | k + 3, h1, h2 => simp at h1
  refine dL S (fun hb hw gM S => ?_) fun kJ S => ?_
  · simp only [cZ, aj, cC, aE]
    exact wA .ak [] [] _ _ _ (by omega) (by simp) (.inl ⟨rfl, rfl, rfl⟩) S
  · simp only [cZ, aj, dk, aK]
    refine dC (Gs S.hi hf) S fun xv q4 Gj b4 mT h4 Td Ij S e4 => ?_
    refine AE (c := 2) (i0 := j2) (fun i hi => Gs hi hf) (by omega) h4 Td (fun hb => by omega) S fun sI q5 acc b5 ue h5 FE S => ?_
    refine dD S fun Jo q6 a6 tu h6 _ S => ?_
    exact wA _ acc [(b5, bJ acc)] _ _ _ (by omega) (by omega) (.inr ⟨b5, rfl, rfl⟩) S
 refine dL S (fun hb hw bI S => ?_) fun kJ S => ?_
 · simp only [aK]
   refine fe [] S fun bQ S => ?_
   exact rest _ _ _ _ (by omega) S
 · simp only [aE]
   refine dD S fun kK j1 a1 bQ h1 _ S => ?_
   exact rest _ _ _ _ (by omega) S
end
end Go.Rip
