/- ringed. Clone, own. Conditions: none. -/
import Derived.Test.YtbclmkfibgmgdaaGreatDoorRdFJ
section
namespace Go.Proofs
open Go Go.Ab
set_option linter.unusedVariables false
set_option linter.unusedSimpArgs false
noncomputable section

/-- the arcs of a round from one on -/
def ringFrom (i n : Nat) : Nat → Nat → List (List (List Nat))
  | 0, _ => []
  | c + 1, k => [nameOf i (k % n), nameOf i ((k + 1) % n)] :: ringFrom i n c (k + 1)
def ringsFrom : Nat → List Nat → List (List (List Nat))
  | _, [] => []
  | i, n :: l => ringFrom i n n 0 ++ ringsFrom (i + 1) l

abbrev ruleC (b : AV) : List AV := [.str [112], .nilSlice, b]
theorem LitSl.plain {H : Hp} {x : AV} {es : List AV} (h : LitSl H x es) : Plainly x := by
  rcases h with ⟨rfl, rfl⟩ | ⟨b, op, o, rfl, _⟩
  · exact ⟨rfl, rfl⟩
  · exact ⟨rfl, beq_slice ..⟩
theorem ruleC_same {x : AV} (h : Plainly x) : sameO (.cells (ruleC x) 30 false) (.cells (ruleC x) 30 false) = true := sameO_cells (beqL_cons (beq_str _) (beqL_cons rfl (beqL_cons h.2 rfl)))

/-- what stands behind the heap of ringed, at any time -/
structure RingInv (N0 b3 : Nat) (H0 H : Hp) (x : AV) (es : List AV) (l : List (List (List Nat))) : Prop where
  lo : N0 ≤ b3
  hi : b3 < H.next
  rule : H.get b3 = some (.cells (ruleC x) 30 false)
  sl : LitSl H x es
  tms : TmsL H es l
  xb : Blk (fun b => N0 ≤ b) x
  kept : Kept H0 H
  n0 : N0 = H0.next
theorem RingInv.move {N0 b3 : Nat} {H0 H H' : Hp} {x : AV} {es : List AV} {l : List (List (List Nat))} (r : RingInv N0 b3 H0 H x es l) (k : Kept H H') : RingInv N0 b3 H0 H' x es l :=
  ⟨r.lo, Nat.lt_of_lt_of_le r.hi k.le, (k.get _ r.hi).trans r.rule, r.sl.kept k, r.tms.kept k, r.xb, r.kept.trans k, r.n0⟩

/-- one arc -/
theorem ringed_arc {d i n k N0 b3 c4 c5 : Nat} {H0 H : Hp} {x : AV} {es : List AV} {l : List (List (List Nat))} {s : Store} {td : List Item} {Q : AV → Hp → Prop} (hi : i < 5) (hn : n ≠ 0) (hn5 : n ≤ 5) (hk : k < 1000) (r : RingInv N0 b3 H0 H x es l) (hl : es.length < 100)
    (h4 : H.get c4 = some (.cells [nI i] 3 false)) (h5 : H.get c5 = some (.cells [nI n] 3 false)) (h4n : c4 < H.next) (h5n : c5 < H.next) (s3 : s 3 = .ptr b3 0) (s6 : s 6 = nI k) (s7 : s 7 = .func 15 [] [.ptr c4 0, .ptr c5 0])
    (hQ : ∀ s' H' x' es', RingInv N0 b3 H0 H' x' es' (l ++ [[nameOf i (k % n), nameOf i ((k + 1) % n)]]) → es'.length = es.length + 1 → H'.get c4 = some (.cells [nI i] 3 false) → H'.get c5 = some (.cells [nI n] 3 false) → H.next ≤ H'.next → (∀ j, j < 22 → s' j = s j) → G Tryz.env (d + 2) ⟨6, 40, none⟩ td s' H' Q) :
    G Tryz.env (d + 2) ⟨6, 40, none⟩ (.code (.region 9 R6_9 true) :: td) s H Q := by
  refine G.drawn rfl v6_9 w6_9 rfl ?_
  have kr : Kept H ⟨H.get, H.next + 16⟩ := .room
  have r1 := r.move kr
  have l1 : loadS Tryz.env 28 ⟨H.get, H.next + 16⟩ (b3, 2) = some x := load_one tg28 ts28 r.rule rfl
  simp [s3, s6, s7, tf30_1, l1]
  rw [rdB_some (H := ⟨H.get, H.next + 16⟩) _ r.rule]
  have so := ruleC_same r.sl.plain
  refine ⟨readOk_first r.rule so, ?_⟩
  refine (arc_ok (d := d + 1) (i := i) (k := k) (n := n) (ci := c4) (cn := c5) (H := ⟨H.get, H.next + 16⟩) hi hn hn5 h4 h5 (by show c4 < H.next + 16; omega) (by show c5 < H.next + 16; omega)).use ?_
  rintro v H1 ⟨rfl, k1⟩
  have r2 := r1.move k1
  have k1' : Kept H H1 := kr.trans k1
  refine ⟨reads_keep (by intro q hq; simp at hq; subst hq; exact .inr ⟨r2.rule, so⟩), ?_⟩
  simp [s6, s7, n_add (E := Tryz.env) 3 true k 1 (by omega)]
  refine ⟨by decide, ?_⟩
  refine (arc_ok (d := d + 1) (i := i) (k := k + 1) (n := n) (ci := c4) (cn := c5) (H := H1) hi hn hn5 ((k1'.get _ h4n).trans h4) ((k1'.get _ h5n).trans h5) (by have := k1'.le; omega) (by have := k1'.le; omega)).use ?_
  rintro v H2 ⟨rfl, k2⟩
  have r3 := r2.move k2
  have k2' : Kept H H2 := k1'.trans k2
  have hle : H.next + 16 ≤ H2.next := Nat.le_trans k1.le k2.le
  refine ⟨reads_keep (by intro q hq; simp at hq; subst hq; exact .inr ⟨r3.rule, so⟩), ?_⟩
  have ble4 : Nat.ble 4 16777216 = true := rfl
  have ble8 : Nat.ble 8 16777216 = true := rfl
  have hxlt : Blk (fun b => b < H.next) x := by
    rcases r.sl with ⟨rfl, _⟩ | ⟨b, op, o, rfl, _, h3, _⟩
    · trivial
    · exact h3
  have hxty : ∀ b c t o, H.get b = some (.cells c t o) → t ≠ 55 → Blk (fun b' => b ≠ b') x := by
    intro b c t o hb ht
    rcases r.sl with ⟨rfl, _⟩ | ⟨b', op, o', rfl, h2, h3, _⟩
    · trivial
    · intro e; subst e; rw [hb] at h2; exact ht (AObj.cells.inj (Option.some.inj h2)).2.1
  have k3 : Kept H (H2.put (H.next + 9) (.cells [nI 1, .str (nameOf i (k % n)), nI 1, .str (nameOf i ((k + 1) % n))] 51 false)) := k2'.put (by omega)
  have k4 : Kept H ((H2.put (H.next + 9) (.cells [nI 1, .str (nameOf i (k % n)), nI 1, .str (nameOf i ((k + 1) % n))] 51 false)).put (H.next + 12) (.cells (litC [101] (.slice (H.next + 9) 0 2 2 0)) 55 false)) := k3.put (by omega)
  have r4 := r.move k4
  have pa : Plainly (.slice (H.next + 9) 0 2 2 0) := ⟨rfl, beq_slice ..⟩
  obtain ⟨H5, e1, e2, e3, e4⟩ := append_lits (x := x) (y := .slice (H.next + 12) 0 1 1 0) (es := es) (bs := [.slice (H.next + 9) 0 2 2 0]) (id := H.next + 13) r4.sl ⟨H.next + 12, 0, 1, 0, _, 55, false, rfl, Hp.put_get_eq _ _ _, by simp [cellsL]⟩ (by simp) (by simpa using pa) (by simp; omega)
    (hxlt.mono fun b hb => by omega)
  have n5 : H5.next = H2.next := e2
  have g5 : ∀ b, b < H.next → Blk (fun b' => b ≠ b') x → H5.get b = H.get b := fun b hb hx => (e4 b (by omega) hx).trans (k4.get b hb)
  have t5 : H5.get (H.next + 9) = some (.cells [nI 1, .str (nameOf i (k % n)), nI 1, .str (nameOf i ((k + 1) % n))] 51 false) :=
    (e4 _ (by omega) (hxlt.mono fun b hb => by omega)).trans ((Hp.put_get_ne _ _ _ _ (by omega)).trans (Hp.put_get_eq _ _ _))
  have b5 : H5.get b3 = some (.cells (ruleC x) 30 false) := (g5 b3 r.hi (hxty _ _ _ _ r.rule (by decide))).trans r.rule
  simp [buildSliceS, te25, ts51, tz51, fillES, rep, sliceTo, ble4, buildS, tz27, tu27, tk27, fillSS, tzF27_0n, tzF27_0t, tzF27_0o, tzF27_1n, tzF27_1t, tzF27_1o, ts9, ts25, tz55, tu55, tk55, tzF55_0n, tzF55_0t, tzF55_0o, tzF55_1n, tzF55_1t, tzF55_1o, ts3, ts27, te28, ts55, ble8, s3, tf30_1, e1]
  refine ⟨by decide, reads_ahead (by simp [bitAt]), by decide, ?_⟩
  rw [store_at (c := ruleC x) (c' := ruleC (.slice (H.next + 13) 0 (es.length + 1) (es.length + 1) 9)) (e := 30) (o := false) ts28 b5 (by simp) (by simp)]
  simp
  refine ⟨reads_ahead (by simp [bitAt]), ?_⟩
  have g6 : ∀ b, b < H.next → b ≠ b3 → Blk (fun b' => b ≠ b') x → (H5.put b3 (.cells (ruleC (.slice (H.next + 13) 0 (es.length + 1) (es.length + 1) 9)) 30 false)).get b = H.get b := fun b hb h3 hx => (Hp.put_get_ne _ _ _ _ h3).trans (g5 b hb hx)
  have ne3 : ∀ b c t o, H.get b = some (.cells c t o) → t ≠ 30 → b ≠ b3 := by
    intro b c t o hb ht e
    subst e; rw [r.rule] at hb; exact ht (AObj.cells.inj (Option.some.inj hb)).2.1.symm
  have r3i := r.hi
  have hlo := r.lo
  refine hQ _ _ (.slice (H.next + 13) 0 (es.length + 1) (es.length + 1) 9) (es ++ [.slice (H.next + 9) 0 2 2 0]) ⟨hlo, ?_, Hp.put_get_eq _ _ _, .inr ⟨H.next + 13, 9, true, by simp, (Hp.put_get_ne _ _ _ _ (by omega)).trans e3, ?_, by simp, rfl⟩, ?_, ?_, ?_, r.n0⟩ (by simp) ?_ ?_ ?_ ?_
  · rw [Hp.put_next]; omega
  · rw [Hp.put_next]; omega
  · refine TmsL.append (r.tms.move (by rw [Hp.put_next]; omega) fun b c hb hc => ?_) ⟨?_, ?_, trivial⟩
    · rcases hc with hc | hc
      · exact g6 b hb (ne3 _ _ _ _ hc (by decide)) (hxty _ _ _ _ hc (by decide))
      · exact g6 b hb (ne3 _ _ _ _ hc (by decide)) (hxty _ _ _ _ hc (by decide))
    · refine TmSl.mk (l := [nameOf i (k % n), nameOf i ((k + 1) % n)]) (o := false) ((Hp.put_get_ne _ _ _ _ (by omega)).trans t5) ?_
      intro j z hj
      match j with
      | 0 => cases hj; rfl
      | 1 => cases hj; rfl
      | j + 2 => simp at hj
    · show H.next + 9 < _
      rw [Hp.put_next]; omega
  · show N0 ≤ H.next + 13
    omega
  · have hk0 := r.kept
    refine ⟨by rw [Hp.put_next]; have := hk0.le; omega, fun c hc => ?_⟩
    have hcN : c < N0 := by rw [r.n0]; exact hc
    rw [g6 c (by have := hk0.le; omega) (by omega) (r.xb.mono fun b hb => by omega)]
    exact hk0.get c hc
  · rw [g6 c4 h4n (ne3 _ _ _ _ h4 (by decide)) (hxty _ _ _ _ h4 (by decide))]; exact h4
  · rw [g6 c5 h5n (ne3 _ _ _ _ h5 (by decide)) (hxty _ _ _ _ h5 (by decide))]; exact h5
  · rw [Hp.put_next]; omega
  · intro j hj
    simp only [setS_eq]
    have : ∀ n, 22 ≤ n → j ≠ n := fun n hn => by omega
    simp [this]

theorem ringed_in {d i n N0 b3 c4 c5 : Nat} {H0 : Hp} {td : List Item} {Q : AV → Hp → Prop} (hi : i < 5) (hn : n ≠ 0) (hn5 : n ≤ 5) : ∀ (c k : Nat) (s : Store) (H : Hp) (x : AV) (es : List AV) (l : List (List (List Nat))), k + c = n → RingInv N0 b3 H0 H x es l → es.length + c < 100 →
    H.get c4 = some (.cells [nI i] 3 false) → H.get c5 = some (.cells [nI n] 3 false) → c4 < H.next → c5 < H.next → s 3 = .ptr b3 0 → s 4 = .ptr c4 0 → s 5 = .ptr c5 0 → s 17 = nI n → s 18 = nI k →
    (∀ s' H' x' es', RingInv N0 b3 H0 H' x' es' (l ++ ringFrom i n c k) → es'.length = es.length + c → (∀ j, j = 2 ∨ j = 3 ∨ j = 10 ∨ j = 11 ∨ j = 12 → s' j = s j) → H.next ≤ H'.next → G Tryz.env (d + 2) ⟨6, 40, none⟩ td s' H' Q) →
    G Tryz.env (d + 2) ⟨6, 40, none⟩ (.code L6_0 :: .inLoop L6_0 :: .inBlock 2 :: td) s H Q := by
  intro c
  induction c with
  | zero =>
    intro k s H x es l hk r hl h4 h5 h4n h5n s3 s4 s5 s17 s18 hQ
    refine G.seq (G.run v6_6 ?_)
    simp [s17, s18]
    refine G.seq (G.cond (t := false) (by simp; omega) ?_)
    refine G.exit rfl (hQ _ H x es (by simpa [ringFrom] using r) rfl ?_ (Nat.le_refl _))
    intro j hj
    rcases hj with rfl | rfl | rfl | rfl | rfl <;> simp
  | succ c ih =>
    intro k s H x es l hk r hl h4 h5 h4n h5n s3 s4 s5 s17 s18 hQ
    refine G.seq (G.run v6_6 ?_)
    simp [s17, s18]
    refine G.seq (G.cond (t := true) (by simp; omega) ?_)
    refine G.skip (G.seq (G.block (G.seq (G.run v6_7 ?_))))
    simp [s18]
    repeat refine G.seq ?_
    refine G.run v6_8 ?_
    simp [s4, s5]
    refine ringed_arc (d := d) (k := k) hi hn hn5 (by omega) r (by omega) h4 h5 h4n h5n (by simp [s3]) (by simp) (by simp) ?_
    intro s' H' x' es' r' hl' h4' h5' hle hs
    refine G.inBlock (G.run v6_10 ?_)
    have e18 : s' 18 = nI k := by rw [hs 18 (by omega)]; simp [s18]
    simp [e18, n_add (E := Tryz.env) 3 true k 1 (by omega)]
    refine G.inLoop (ih (k + 1) _ H' x' es' _ (by omega) r' (by omega) h4' h5' (by omega) (by omega) ?_ ?_ ?_ ?_ ?_ ?_)
    · simp [hs, s3]
    · simp [hs, s4]
    · simp [hs, s5]
    · simp [hs, s17]
    · simp
    · intro s2 H2 x2 es2 r2 hl2 hs2 hle2
      refine hQ s2 H2 x2 es2 ?_ (by omega) (fun j hj => ?_) (by omega)
      · have : l ++ ringFrom i n (c + 1) k = (l ++ [[nameOf i (k % n), nameOf i ((k + 1) % n)]]) ++ ringFrom i n c (k + 1) := by simp [ringFrom]
        rw [this]; exact r2
      · rw [hs2 j hj]
        rcases hj with rfl | rfl | rfl | rfl | rfl <;> simp [hs]

/-- what a call of ringed does -/
def RulePost (He : Hp) (l : List (List (List Nat))) (v : AV) (H' : Hp) : Prop := ∃ x es, v = ruleV x ∧ Kept He H' ∧ LitSl H' x es ∧ TmsL H' es l
theorem ringed_loop {d N0 b2 b3 : Nat} {He H0 : Hp} {a : AV} {A : List Nat} (hA : ∀ n, n ∈ A → n ≠ 0 ∧ n ≤ 5) (hAl : A.length ≤ 3) (hb2 : b2 < N0) (hb2e : He.next ≤ b2) (hHe : Kept He H0) (hN : N0 = H0.next) (ha : IntSl H0 a A) (hab : Blk (fun b => b < N0) a) (ht2 : H0.get b2 = some (.cells [.str [], .nilSlice, .nilSlice] 30 false)) :
    ∀ (c i : Nat) (s : Store) (H : Hp) (x : AV) (es : List AV) (l : List (List (List Nat))), i + c = A.length → RingInv N0 b3 H0 H x es l → es.length ≤ 5 * i →
    s 2 = .ptr b2 0 → s 3 = .ptr b3 0 → s 10 = a → s 11 = nI A.length → s 12 = nI i →
    G Tryz.env (d + 2) ⟨6, 40, none⟩ [.code L6_1, .inLoop L6_1, .inBlock 0, .code (.seq (.region 12 R6_12 false) .ret)] s H
      (RulePost He (l ++ ringsFrom i (A.drop i))) := by
  intro c
  induction c with
  | zero =>
    intro i s H x es l hic r hl s2 s3 s10 s11 s12
    refine G.seq (G.run v6_3 ?_)
    simp [s11, s12]
    refine G.seq (G.cond (t := false) (by simp; omega) ?_)
    refine G.exit rfl (G.seq (G.run v6_12 ?_))
    have l1 : loadS Tryz.env 30 H (b3, 0) = some (.agg (ruleC x)) := load_agg tg30 ts30 r.rule rfl
    have hkb2 : H.get b2 = some (.cells [.str [], .nilSlice, .nilSlice] 30 false) := (r.kept.get _ (by omega)).trans ht2
    have px := r.sl.plain
    have hsx : sized (.agg (ruleC x)) 3 = true := by
      rcases r.sl with ⟨rfl, _⟩ | ⟨b, op, o, rfl, _⟩ <;> rfl
    have hcx : scalars (AV.agg (ruleC x)).cells = true := by
      rcases r.sl with ⟨rfl, _⟩ | ⟨b, op, o, rfl, _⟩ <;> rfl
    simp [s2, s3, l1]
    rw [store_at (H := H.skip) (c := [.str [], .nilSlice, .nilSlice]) (c' := ruleC x) (e := 30) (o := false) ts30 hkb2 (by rw [hsx, hcx]; rfl) (by simp)]
    simp
    have nle := r.kept.le
    refine G.ret fn6 (l := [ruleV x]) ?_ ⟨x, es, rfl, (hHe.trans r.kept).skipR.put hb2e, ?_, ?_⟩
    · rw [res6]
      have l3 : loadS Tryz.env 30 (H.skip.put b2 (.cells (ruleC x) 30 false)) (b2, 0) = some (ruleV x) := load_agg tg30 ts30 (Hp.put_get_eq _ _ _) rfl
      simp [resL, resS, s2, l3]
    · rcases r.sl with h | ⟨b, op, o, e1, e2, e3, e4⟩
      · exact .inl h
      · refine .inr ⟨b, op, o, e1, (Hp.put_get_ne _ _ _ _ ?_).trans e2, by rw [Hp.put_next, Hp.skip_next]; omega, e4⟩
        intro e; rw [e, hkb2] at e2; exact absurd (AObj.cells.inj (Option.some.inj e2)).2.1 (by decide)
    · rw [List.drop_of_length_le (by omega)]
      rw [ringsFrom, List.append_nil]
      refine r.tms.move (by rw [Hp.put_next]; exact Nat.le_succ _) fun b c hb hc => Hp.put_get_ne _ _ _ _ ?_
      intro e
      rw [e, hkb2] at hc
      rcases hc with hc | hc <;> exact absurd (AObj.cells.inj (Option.some.inj hc)).2.1 (by decide)
  | succ c ih =>
    intro i s H x es l hic r hl s2 s3 s10 s11 s12
    have hi : i < A.length := by omega
    have hn := hA A[i] (List.getElem_mem hi)
    have haH : IntSl H a A := by
      obtain ⟨b, cap, op, cc, o, rfl, h1, h2⟩ := ha
      exact ⟨b, cap, op, cc, o, rfl, (r.kept.get b (by rw [← hN]; exact hab)).trans h1, h2⟩
    obtain ⟨b, n', cc, p, hxb, hix, hld⟩ := haH.at hi
    refine G.seq (G.run v6_3 ?_)
    simp [s11, s12]
    refine G.seq (G.cond (t := true) (by simp; omega) ?_)
    refine G.skip (G.seq (G.block (G.seq (G.run v6_4 ?_))))
    simp [s10, s12, hxb, hix, hld, tz3]
    rw [store_at (c := [nI 0]) (c' := [nI i]) (e := 3) (o := false) ts3 (by rw [Hp.skip_get, Hp.new_get_ne _ _ _ (by rw [Hp.new_next]; omega)]; exact Hp.new_get_eq _ _ _ rfl) (by simp) (by simp)]
    simp
    rw [store_at (c := [nI 0]) (c' := [nI A[i]]) (e := 3) (o := false) ts3 (by rw [Hp.skip_get, Hp.put_get_ne _ _ _ _ (by rw [Hp.new_next]; omega), Hp.skip_get]; exact Hp.new_get_eq _ _ _ rfl) (by simp) (by simp)]
    simp
    refine G.genH fun H1 hH1 => ?_
    have n1 : H1.next = H.next + 4 := by rw [hH1]; rfl
    have k1 : Kept H H1 := by rw [hH1]; exact ((Kept.new.newR.skipR.put (Nat.le_refl _)).skipR).put (Nat.le_succ _)
    have t4 : H1.get H.next = some (.cells [nI i] 3 false) := by
      rw [hH1, Hp.put_get_ne _ _ _ _ (by rw [Hp.new_next]; omega), Hp.skip_get, Hp.put_get_eq]
    have t5 : H1.get (H.next + 1) = some (.cells [nI A[i]] 3 false) := by
      rw [hH1]; exact Hp.put_get_eq _ _ _
    clear hH1
    repeat refine G.seq ?_
    refine G.run v6_5 ?_
    have l5 : loadS Tryz.env 3 H1 (H.next + 1, 0) = some (nI A[i]) := load_one tg3 ts3 t5 rfl
    simp [Hp.new_next, l5]
    refine G.block (G.loop ?_)
    refine ringed_in (d := d) (i := i) (n := A[i]) (c4 := H.next) (c5 := H.next + 1) (by omega) hn.1 hn.2 A[i] 0 _ H1 x es l (by omega) (r.move k1) (by omega) t4 t5 (by omega) (by omega) (by simp [s3]) (by simp) (by simp [Hp.new_next]) (by simp) (by simp) ?_
    intro s' H' x' es' r' hl' hs' hle'
    refine G.inBlock (G.run v6_11 ?_)
    have e12 : s' 12 = nI i := by rw [hs' 12 (by simp)]; simp [s12]
    simp [e12, n_add (E := Tryz.env) 3 true i 1 (by omega)]
    have hd : A.drop i = A[i] :: A.drop (i + 1) := List.drop_eq_getElem_cons hi
    refine G.inLoop ((ih (i + 1) _ H' x' es' _ (by omega) r' (by omega) ?_ ?_ ?_ ?_ ?_).mono ?_)
    · simp [hs', s2]
    · simp [hs', s3]
    · simp [hs', s10, hxb]
    · simp [hs', s11]
    · simp
    · rintro v H2 ⟨x2, es2, e1, e2, e3, e4⟩
      refine ⟨x2, es2, e1, e2, e3, ?_⟩
      rw [hd, ringsFrom, ← List.append_assoc]
      exact e4

/-- ringed -/
theorem ringed_ok {d : Nat} {H : Hp} {a : AV} {A : List Nat} (hA : ∀ n, n ∈ A → n ≠ 0 ∧ n ≤ 5) (hAl : A.length ≤ 3) (ha : IntSl H a A) (hab : Blk (fun b => b < H.next) a) :
    Go.Ab.Fn Tryz.env (d + 3) 6 [a] H (RulePost H (ringsFrom 0 A)) := by
  refine Fn.enter sm6 fk6 fn6 body6 (by rw [nt6]; exact Nat.le_of_ble_eq_true rfl) (by rw [nt6]; decide) ?_
  rw [nt6]
  have a0 : argS [a] 0 = a := rfl
  generalize argS [a] = s at a0
  repeat refine G.seq ?_
  refine G.run v6_0 ?_
  simp [tz30]
  refine G.genH fun H1 hH1 => ?_
  have n1 : H1.next = H.next + 1 := by rw [hH1]; rfl
  have k1 : Kept H H1 := by rw [hH1]; exact .new
  have t1 : H1.get H.next = some (.cells [.str [], .nilSlice, .nilSlice] 30 false) := by rw [hH1]; exact Hp.new_get_eq _ _ _ rfl
  clear hH1
  repeat refine G.seq ?_
  refine G.run v6_1 ?_
  simp [buildS, tz27, tu27, tk27, fillSS, tzF27_0n, tzF27_0t, tzF27_0o, ts9, tz30, tu30, tk30, tzF30_0n, tzF30_0t, tzF30_0o, ts27]
  rw [store_at (c := [.str [], .nilSlice, .nilSlice]) (c' := ruleC .nilSlice) (e := 30) (o := false) ts30 (by simp [Hp.skip_get, Hp.new_get_eq]) (by simp) (by simp)]
  simp
  refine G.genH fun H2 hH2 => ?_
  have n2 : H2.next = H1.next + 2 := by rw [hH2]; rfl
  have k2 : Kept H1 H2 := by rw [hH2]; exact Kept.new.skipR.put (Nat.le_refl _)
  have t2 : H2.get H1.next = some (.cells (ruleC .nilSlice) 30 false) := by rw [hH2]; exact Hp.put_get_eq _ _ _
  clear hH2
  have ha1 : IntSl H1 a A := by
    obtain ⟨b, cap, op, cc, o, rfl, h1, h2⟩ := ha
    exact ⟨b, cap, op, cc, o, rfl, (k1.get b hab).trans h1, h2⟩
  have ha2 : IntSl H2 a A := by
    obtain ⟨b, cap, op, cc, o, rfl, h1, h2⟩ := ha
    exact ⟨b, cap, op, cc, o, rfl, ((k1.trans k2).get b hab).trans h1, h2⟩
  repeat refine G.seq ?_
  refine G.run v6_2 ?_
  simp [a0, ha2.len]
  refine G.block (G.loop ?_)
  exact ringed_loop (d := d) (N0 := H1.next) (b2 := H.next) (b3 := H1.next) (He := H) (H0 := H1) hA hAl (by omega) (Nat.le_refl _) k1 rfl ha1 (hab.mono fun b hb => by omega) t1 A.length 0 _ H2 .nilSlice [] [] (by omega)
    ⟨Nat.le_refl _, by omega, t2, .inl ⟨rfl, rfl⟩, trivial, trivial, k2, rfl⟩ (by simp) (by simp) (by simp) (by simp [a0]) (by simp) (by simp)
end
end Go.Proofs
end
section
namespace Go.Proofs
open Go Go.Ab
set_option linter.unusedVariables false
set_option linter.unusedSimpArgs false
noncomputable section

theorem cut_join {α : Type} : ∀ {c : List α} {o n m : Nat} {u v : List α}, cut c o n = some u → cut c (o + n) m = some v → cut c o (n + m) = some (u ++ v)
  | c, o, n, m, u, v, h, g => by
    obtain ⟨h1, h2⟩ := cut_eq o c n u h
    obtain ⟨g1, g2⟩ := cut_eq (o + n) c m v g
    have hu : u.length = n := by rw [h2]; simp; omega
    have e1 : c.drop o = u ++ c.drop (o + n) := by
      conv => lhs; rw [← List.take_append_drop n (c.drop o)]
      rw [h2, List.drop_drop]
    have e2 : c.drop (o + n) = v ++ c.drop (o + n + m) := by
      conv => lhs; rw [← List.take_append_drop m (c.drop (o + n))]
      rw [g2, List.drop_drop]
    have hc : c = c.take o ++ ((u ++ v) ++ c.drop (o + n + m)) := by
      rw [List.append_assoc, ← e2, ← e1, List.take_append_drop]
    have hl : (c.take o).length = o := by simp; omega
    have hv : v.length = m := by rw [g2]; simp; omega
    have := cut_mid (c.take o) (u ++ v) (c.drop (o + n + m))
    rw [hl, List.length_append, hu, hv] at this
    rw [← hc] at this
    exact this
/-- the cells of terms -/
def cellsT : List (List Nat) → List AV
  | [] => []
  | x :: t => nI 1 :: .str x :: cellsT t
theorem cellsT_length : ∀ t, (cellsT t).length = t.length * 2
  | [] => rfl
  | x :: t => by simp only [cellsT, List.length_cons, cellsT_length t]; omega
theorem cellsT_append : ∀ t u, cellsT (t ++ u) = cellsT t ++ cellsT u
  | [], _ => rfl
  | x :: t, u => by simp only [List.cons_append, cellsT, cellsT_append t u]
theorem cellsT_scalars : ∀ t, scalars (cellsT t) = true
  | [] => rfl
  | x :: t => by simp only [cellsT, scalars_n, scalars_str, cellsT_scalars t]
theorem cellsT_beq : ∀ t, AV.beqL (cellsT t) (cellsT t) = true
  | [] => rfl
  | x :: t => by
    simp only [cellsT]
    exact beqL_cons rfl (beqL_cons (beq_str _) (cellsT_beq t))
theorem cellsT_cut : ∀ (t : List (List Nat)) (i : Nat) (x : List Nat), t[i]? = some x → cut (cellsT t) (i * 2) 2 = some [nI 1, .str x]
  | [], i, x, h => by simp at h
  | y :: t, 0, x, h => by cases h; simp [cellsT]
  | y :: t, i + 1, x, h => by
    rw [cellsT, show (i + 1) * 2 = i * 2 + 1 + 1 by omega, cut_succ, cut_succ]
    exact cellsT_cut t i x (by simpa using h)
theorem _root_.Go.Ab.TmSl.cells {H : Hp} {a : AV} {t : List (List Nat)} (h : TmSl H a t) (ht : 0 < t.length) : ∃ b cap op c o, a = .slice b 0 t.length cap op ∧ H.get b = some (.cells c 51 o) ∧ cut c 0 (t.length * 2) = some (cellsT t) := by
  cases h with
  | nil => simp at ht
  | @mk b cap op c o _ h1 h2 =>
    refine ⟨b, cap, op, c, o, rfl, h1, ?_⟩
    have : ∀ k, k ≤ t.length → cut c 0 (k * 2) = some (cellsT (t.take k)) := by
      intro k
      induction k with
      | zero => intro _; simp [cellsT]
      | succ k ih =>
        intro hk
        have h3 := h2 k t[k] (List.getElem?_eq_getElem (by omega))
        have := cut_join (ih (by omega)) (by rw [Nat.zero_add]; exact h3)
        rw [show (k + 1) * 2 = k * 2 + 2 by omega, this, List.take_add_one, cellsT_append]
        simp [cellsT, show k < t.length by omega]
    have := this t.length (Nat.le_refl _)
    rwa [List.take_length] at this

/-- Clone of nothing -/
theorem clone_nil {d : Nat} {H : Hp} : Go.Ab.Fn Tryz.env (d + 1) 31 [.nilSlice] H fun v H' => v = .nilSlice ∧ H' = H := by
  refine Fn.enter sm31 fk31 fn31 body31 (by rw [nt31]; exact Nat.le_of_ble_eq_true rfl) (by rw [nt31]; decide) ?_
  rw [nt31]
  have a0 : argS [.nilSlice] 0 = .nilSlice := rfl
  generalize argS [.nilSlice] = s at a0
  repeat refine G.seq ?_
  refine G.run v31_0 ?_
  simp
  repeat refine G.seq ?_
  refine G.run v31_1 ?_
  have e0 : binA Tryz.env 25 true .eql .nilSlice .nilSlice = some (.bool true) := rfl
  simp [a0, e0]
  refine G.cond (t := true) (by simp) ?_
  repeat refine G.seq ?_
  refine G.run v31_2 ?_
  simp
  exact G.ret fn31 (l := [.nilSlice]) (by rw [res31]; simp [resL, resS]) ⟨rfl, rfl⟩
/-- Clone of terms -/
theorem clone_terms {d : Nat} {H : Hp} {a : AV} {t : List (List Nat)} (h : TmSl H a t) (hb : Blk (fun b => b < H.next) a) (ht : 0 < t.length) (htl : t.length ≤ 64) :
    Go.Ab.Fn Tryz.env (d + 1) 31 [a] H fun v H' => Kept H H' ∧ TmSl H' v t ∧ Blk (fun b => H.next ≤ b ∧ b < H'.next) v := by
  obtain ⟨b, cap, op, c, o, rfl, h1, h2⟩ := h.cells ht
  have hbn : b < H.next := hb
  refine Fn.enter sm31 fk31 fn31 body31 (by rw [nt31]; exact Nat.le_of_ble_eq_true rfl) (by rw [nt31]; decide) ?_
  rw [nt31]
  have a0 : argS [.slice b 0 t.length cap op] 0 = .slice b 0 t.length cap op := rfl
  generalize argS [.slice b 0 t.length cap op] = s at a0
  repeat refine G.seq ?_
  refine G.run v31_0 ?_
  simp
  repeat refine G.seq ?_
  refine G.run v31_1 ?_
  have e0 : binA Tryz.env 25 true .eql (.slice b 0 t.length cap op) .nilSlice = some (.bool false) := rfl
  simp [a0, e0]
  refine G.cond (t := false) (by simp) (G.skip ?_)
  repeat refine G.seq ?_
  refine G.run v31_3 ?_
  have happ : ∀ (id q : Nat) (H1 : Hp), H1.get q = some (.cells [] 51 false) → H1.get b = some (.cells c 51 o) → appendS Tryz.env 25 (some 25) (.slice q 0 0 0 0) (.slice b 0 t.length cap op) id H1 = some (.slice id 0 t.length t.length 3, H1.put id (.cells (cellsT t) 51 true)) := by
    intro id q H1 hq hb
    unfold appendS
    rw [te25]
    have hti : Tryz.env.tt.get none 51 = some Tryz.t51 := rfl
    have hnew : newCellsS Tryz.env 51 2 false (.slice b 0 t.length cap op) H1 = some (t.length, cellsT t) := by
      unfold newCellsS
      show (some t.length).bind (fun n => (firstS 2 n H1 (.slice b 0 t.length cap op)).map fun l => (n, l)) = _
      show (((H1.get b).bind cellsOf).bind fun c => cut c.1 0 (Nat.mul t.length 2)).map _ = _
      rw [hb]
      show (cut c 0 (t.length * 2)).map _ = _
      rw [h2]; rfl
    have hbear : bears t.length Tryz.t51.bytes = true := by
      unfold bears
      have h1 : Tryz.t51.bytes ≤ 1000000 := Nat.le_of_ble_eq_true rfl
      have h2 : t.length * Tryz.t51.bytes ≤ 1001 * 1000000 := Nat.mul_le_mul (by omega) h1
      rw [show Nat.ble (Nat.mul t.length Tryz.t51.bytes) 140737488355328 = true from Nat.ble_eq_true_of_le (show t.length * Tryz.t51.bytes ≤ 140737488355328 by omega), Nat.ble_eq_true_of_le (show t.length ≤ 1099511627776 by omega)]; rfl
    have hzo : zeroOk Tryz.env 51 2 = true := rfl
    simp only [hti, show Tryz.env.isNum (some 25) = some false from rfl, show Tryz.t51.size = 2 from rfl, hnew]
    rw [show Nat.add (lenSl (.slice q 0 0 0 0)) t.length = t.length from Nat.zero_add _, hbear, hzo]
    simp only [Bool.and_self, cond_true]
    unfold appendToS
    simp only []
    have : Nat.ble (Nat.add 0 t.length) 0 = false := by
      cases h : Nat.ble (Nat.add 0 t.length) 0 with
      | false => rfl
      | true => have := Nat.le_of_ble_eq_true h; exact absurd this (by show ¬ (0 + t.length ≤ 0); omega)
    rw [this]
    unfold Hp.cells
    rw [hq]
    simp only [cond_false, Option.bind_some, cellsOf_cells]
    unfold appendNewS
    have : Nat.add 0 t.length = t.length := Nat.zero_add _
    simp only [this]
    rfl
  have hbs : buildSliceS Tryz.env (setS (setS (setS s 2 .nilSlice) 3 (.slice b 0 t.length cap op)) 4 (.bool false)) 25 0 [] = some (.cells [] 51 false, sliceTo 0 0 0) := rfl
  have hbs2 : ∀ s, buildSliceS Tryz.env s 25 0 [] = some (.cells [] 51 false, sliceTo 0 0 0) := fun _ => rfl
  simp [hbs2, a0, sliceTo]
  rw [happ _ _ _ (by rw [Hp.skip_get]; exact Hp.new_get_eq _ _ _ rfl) (by rw [Hp.skip_get, Hp.new_get_ne _ _ _ (by omega)]; exact h1)]
  simp
  refine G.ret fn31 (l := [.slice (H.next + 1) 0 t.length t.length 3]) (by rw [res31]; simp [resL, resS, Hp.new_next]) ⟨Kept.new.skipR.put (Nat.le_succ _), ?_, ?_⟩
  · exact TmSl.mk (c := cellsT t) (o := true) (Hp.put_get_eq _ _ _) (cellsT_cut t)
  · show H.next ≤ H.next + 1 ∧ H.next + 1 < _
    rw [Hp.put_next, Hp.skip_next, Hp.new_next]; omega
/-- Clone of literals -/
theorem clone_lits {d : Nat} {H : Hp} {x : AV} {es : List AV} (h : LitSl H x es) (hp : ∀ a, a ∈ es → Plainly a) (h0 : 0 < es.length) (hl : es.length < 500) :
    Go.Ab.Fn Tryz.env (d + 1) 32 [x] H fun v H' => Kept H H' ∧ LitSl H' v es ∧ Blk (fun b => H.next ≤ b) v := by
  rcases h with ⟨_, rfl⟩ | ⟨b, op, o, rfl, h1, h2, h3⟩
  · simp at h0
  refine Fn.enter sm32 fk32 fn32 body32 (by rw [nt32]; exact Nat.le_of_ble_eq_true rfl) (by rw [nt32]; decide) ?_
  rw [nt32]
  have a0 : argS [.slice b 0 es.length es.length op] 0 = .slice b 0 es.length es.length op := rfl
  generalize argS [.slice b 0 es.length es.length op] = s at a0
  repeat refine G.seq ?_
  refine G.run v32_0 ?_
  simp
  repeat refine G.seq ?_
  refine G.run v32_1 ?_
  have e0 : binA Tryz.env 28 true .eql (.slice b 0 es.length es.length op) .nilSlice = some (.bool false) := rfl
  simp [a0, e0]
  refine G.cond (t := false) (by simp) (G.skip ?_)
  repeat refine G.seq ?_
  refine G.run v32_3 ?_
  have happ : ∀ (id q : Nat) (H1 : Hp), H1.get q = some (.cells [] 55 false) → H1.get b = some (.cells (cellsL es) 55 o) → appendS Tryz.env 28 (some 28) (.slice q 0 0 0 0) (.slice b 0 es.length es.length op) id H1 = some (.slice id 0 es.length es.length 9, H1.put id (.cells (cellsL es) 55 true)) := by
    intro id q H1 hq hb
    unfold appendS
    rw [te28]
    have hti : Tryz.env.tt.get none 55 = some Tryz.t55 := rfl
    have hnew : newCellsS Tryz.env 55 8 false (.slice b 0 es.length es.length op) H1 = some (es.length, cellsL es) := by
      unfold newCellsS
      show (some es.length).bind (fun n => (firstS 8 n H1 (.slice b 0 es.length es.length op)).map fun l => (n, l)) = _
      show (((H1.get b).bind cellsOf).bind fun c => cut c.1 0 (Nat.mul es.length 8)).map _ = _
      rw [hb]
      have := cut_all (cellsL es)
      rw [cellsL_length] at this
      show (cut (cellsL es) 0 (es.length * 8)).map _ = _
      rw [this]; rfl
    have hbear : bears es.length Tryz.t55.bytes = true := by
      unfold bears
      have h1 : Tryz.t55.bytes ≤ 1000000 := Nat.le_of_ble_eq_true rfl
      have h2 : es.length * Tryz.t55.bytes ≤ 1001 * 1000000 := Nat.mul_le_mul (by omega) h1
      rw [show Nat.ble (Nat.mul es.length Tryz.t55.bytes) 140737488355328 = true from Nat.ble_eq_true_of_le (show es.length * Tryz.t55.bytes ≤ 140737488355328 by omega), Nat.ble_eq_true_of_le (show es.length ≤ 1099511627776 by omega)]; rfl
    have hzo : zeroOk Tryz.env 55 8 = true := rfl
    simp only [hti, show Tryz.env.isNum (some 28) = some false from rfl, show Tryz.t55.size = 8 from rfl, hnew]
    rw [show Nat.add (lenSl (.slice q 0 0 0 0)) es.length = es.length from Nat.zero_add _, hbear, hzo]
    simp only [Bool.and_self, cond_true]
    unfold appendToS
    simp only []
    have : Nat.ble (Nat.add 0 es.length) 0 = false := by
      cases h : Nat.ble (Nat.add 0 es.length) 0 with
      | false => rfl
      | true => have := Nat.le_of_ble_eq_true h; exact absurd this (by show ¬ (0 + es.length ≤ 0); omega)
    rw [this]
    unfold Hp.cells
    rw [hq]
    simp only [cond_false, Option.bind_some, cellsOf_cells]
    unfold appendNewS
    have : Nat.add 0 es.length = es.length := Nat.zero_add _
    simp only [this]
    rfl
  have hbs2 : ∀ s, buildSliceS Tryz.env s 28 0 [] = some (.cells [] 55 false, sliceTo 0 0 0) := fun _ => rfl
  simp [hbs2, a0, sliceTo]
  rw [happ _ _ _ (by rw [Hp.skip_get]; exact Hp.new_get_eq _ _ _ rfl) (by rw [Hp.skip_get, Hp.new_get_ne _ _ _ (by omega)]; exact h1)]
  simp
  refine G.ret fn32 (l := [.slice (H.next + 1) 0 es.length es.length 9]) (by rw [res32]; simp [resL, resS, Hp.new_next]) ⟨Kept.new.skipR.put (Nat.le_succ _), ?_, ?_⟩
  · exact .inr ⟨H.next + 1, 9, true, rfl, Hp.put_get_eq _ _ _, by rw [Hp.put_next, Hp.skip_next, Hp.new_next]; omega, h0, rfl⟩
  · exact Nat.le_succ _

theorem own_loop {d b1 b2 nb : Nat} {l : List (List (List Nat))} {o : Bool} {op : Nat} (hop : op = 9) (hl2 : ∀ t, t ∈ l → 0 < t.length ∧ t.length ≤ 64) (hll : l.length < 500) {H0 : Hp} (h10 : H0.next ≤ b1) (h20 : H0.next ≤ b2) (hn0 : H0.next ≤ nb) (h0l : 0 < l.length) : ∀ (k i : Nat) (s : Store) (H : Hp) (es : List AV), i + k = l.length → es.length = l.length → TmsL H es l →
    H.get b1 = some (.cells (ruleC (.slice nb 0 l.length l.length op)) 30 false) → H.get b2 = some (.cells [.str [], .nilSlice, .nilSlice] 30 false) → H.get nb = some (.cells (cellsL es) 55 o) → b1 < H.next → b2 < H.next → nb < H.next → Kept H0 H →
    s 1 = .ptr b1 0 → s 2 = .ptr b2 0 → s 16 = nI l.length → s 17 = nI i →
    G Tryz.env (d + 1) ⟨20, 36, none⟩ [.code L20_0, .inLoop L20_0, .inBlock 0, .code (.seq (.region 8 R20_8 false) .ret)] s H (RulePost H0 l) := by
  intro k
  induction k with
  | zero =>
    intro i s H es hik hal ht hb1 hb2 hnb hb1n hb2n hnbn hk h1 h2 h16 h17
    refine G.seq (G.run v20_4 ?_)
    simp [h16, h17]
    refine G.seq (G.cond (t := false) (by simp; omega) ?_)
    refine G.exit rfl (G.seq (G.run v20_8 ?_))
    have l1 : loadS Tryz.env 30 H (b1, 0) = some (.agg (ruleC (.slice nb 0 l.length l.length op))) := load_agg tg30 ts30 hb1 rfl
    simp [h1, h2, l1]
    rw [store_at (H := H.skip) (c := [.str [], .nilSlice, .nilSlice]) (c' := ruleC (.slice nb 0 l.length l.length op)) (e := 30) (o := false) ts30 hb2 (by simp) (by simp)]
    simp
    have hnb2 : nb ≠ b2 := by intro e; rw [e, hb2] at hnb; exact absurd (AObj.cells.inj (Option.some.inj hnb)).2.1 (by decide)
    refine G.ret fn20 (l := [ruleV (.slice nb 0 l.length l.length op)]) ?_ ⟨_, es, rfl, hk.skipR.put h20, .inr ⟨nb, op, o, by rw [hal], (Hp.put_get_ne _ _ _ _ hnb2).trans hnb, ?_, by omega, hop⟩, ?_⟩
    · rw [res20]
      have l3 : loadS Tryz.env 30 (H.skip.put b2 (.cells (ruleC (.slice nb 0 l.length l.length op)) 30 false)) (b2, 0) = some (ruleV (.slice nb 0 l.length l.length op)) := load_agg tg30 ts30 (Hp.put_get_eq _ _ _) rfl
      simp [resL, resS, h2, l3]
    · rw [Hp.put_next, Hp.skip_next]; omega
    · refine ht.move (by rw [Hp.put_next, Hp.skip_next]; omega) fun b c hb hc => ?_
      refine Hp.put_get_ne _ _ _ _ ?_
      intro e
      rw [e, hb2] at hc
      rcases hc with hc | hc <;> exact absurd (AObj.cells.inj (Option.some.inj hc)).2.1 (by decide)
  | succ k ih =>
    intro i s H es hik hal ht hb1 hb2 hnb hb1n hb2n hnbn hk h1 h2 h16 h17
    have hi : i < l.length := by omega
    have hie : i < es.length := by omega
    have hlt := hl2 l[i] (List.getElem_mem hi)
    obtain ⟨ta, tb⟩ := ht.get i (List.getElem?_eq_getElem hie) (List.getElem?_eq_getElem hi)
    have ix : indexAddrA Tryz.env 28 (.slice nb 0 l.length l.length op) (nI i) = some (.ptr nb (i * 8)) := by
      have := index_slice (E := Tryz.env) (b := nb) (off := 0) (c := l.length) (p := op) tu28 ts55 hi
      simpa using this
    have ps : Plainly (.slice nb 0 l.length l.length op) := ⟨rfl, beq_slice ..⟩
    have so := ruleC_same ps
    have so2 : sameO (.cells (cellsL es) 55 o) (.cells (cellsL es) 55 o) = true := sameO_cells (cellsL_beq es ht.plainly)
    refine G.seq (G.run v20_4 ?_)
    simp [h16, h17]
    refine G.seq (G.cond (t := true) (by simp; omega) ?_)
    refine G.skip (G.seq (G.block (G.seq (G.run v20_5 ?_))))
    simp [h17]
    refine G.drawn rfl v20_6 w20_6 rfl ?_
    have l1 : loadS Tryz.env 28 ⟨H.get, H.next + 15⟩ (b1, 2) = some (.slice nb 0 l.length l.length op) := load_one tg28 ts28 hb1 rfl
    have l2 : loadS Tryz.env 25 ⟨H.get, H.next + 15⟩ (nb, i * 8 + 2) = some es[i] := load_one tg25 ts25 hnb (nth_at2 hie)
    simp [h1, tf30_1, l1]
    rw [rdB_some (H := ⟨H.get, H.next + 15⟩) _ hb1]
    refine ⟨readOk_first hb1 so, ?_⟩
    rw [rdB_some (H := ⟨H.get, H.next + 15⟩) _ hb1]
    refine ⟨readOk_first hb1 so, ?_⟩
    simp [ix, tf55_1, tf27_1, l2]
    rw [rdB_some (H := ⟨H.get, H.next + 15⟩) _ hnb]
    refine ⟨readOk_first hnb so2, ?_⟩
    have kr : Kept H ⟨H.get, H.next + 15⟩ := .room
    refine (clone_terms (d := d) (H := ⟨H.get, H.next + 15⟩) (ta.move (H' := ⟨H.get, H.next + 15⟩) (tb.mono fun b hb => rfl)) (tb.mono fun b hb => by show b < H.next + 15; omega) hlt.1 hlt.2).use ?_
    rintro v H1 ⟨k1, tv, bv⟩
    have k2 : Kept H H1 := kr.trans k1
    have hle : H.next + 15 ≤ H1.next := k1.le
    have b1' : H1.get b1 = some (.cells (ruleC (.slice nb 0 l.length l.length op)) 30 false) := (k2.get _ hb1n).trans hb1
    have b2' : H1.get b2 = some (.cells [.str [], .nilSlice, .nilSlice] 30 false) := (k2.get _ hb2n).trans hb2
    have nb' : H1.get nb = some (.cells (cellsL es) 55 o) := (k2.get _ hnbn).trans hnb
    refine ⟨reads_keep (by
      intro q hq
      simp at hq
      rcases hq with rfl | rfl | rfl
      · exact .inr ⟨nb', so2⟩
      · exact .inr ⟨b1', so⟩
      · exact .inr ⟨b1', so⟩), ?_⟩
    simp [ix, tf55_1, tf27_1]
    refine ⟨by decide, ?_⟩
    have hs1 : ∀ x, Plainly x → sized x 1 = true ∧ x.cells = [x] := by
      intro x hx
      cases x <;> first | exact ⟨rfl, rfl⟩ | (have := hx.1; cases this)
    obtain ⟨sv, cv⟩ := hs1 v tv.plainly
    rw [store_at (c := cellsL es) (c' := cellsL (es.set i v)) (e := 55) (o := o) ts25 nb' (by rw [sv, cv]; exact tv.plainly.1) (by rw [cv]; exact splice_at2 hie v)]
    simp
    refine ⟨reads_ahead (by simp [bitAt]), ?_⟩
    refine G.inBlock (G.run v20_7 ?_)
    simp [h17, n_add (E := Tryz.env) 3 true i 1 (by omega)]
    have nne : ∀ b c t o', H1.get b = some (.cells c t o') → t ≠ 55 → b ≠ nb := by
      intro b c t o' hb ht e
      subst e; rw [nb'] at hb; exact ht (AObj.cells.inj (Option.some.inj hb)).2.1.symm
    refine G.inLoop (ih (i + 1) _ (H1.put nb (.cells (cellsL (es.set i v)) 55 o)) (es.set i v) (by omega) (by simpa using hal) ?_ ((Hp.put_get_ne _ _ _ _ (nne _ _ _ _ b1' (by decide))).trans b1') ((Hp.put_get_ne _ _ _ _ (nne _ _ _ _ b2' (by decide))).trans b2') (Hp.put_get_eq _ _ _) (by rw [Hp.put_next]; omega) (by rw [Hp.put_next]; omega) (by rw [Hp.put_next]; omega) ((hk.trans k2).put hn0) ?_ ?_ ?_ ?_)
    · have ht1 : TmsL H1 (es.set i v) l := (ht.kept k2).set i (List.getElem?_eq_getElem hi) tv (bv.mono fun b hb => hb.2)
      refine ht1.move (by rw [Hp.put_next]; exact Nat.le_refl _) fun b c hb hc => Hp.put_get_ne _ _ _ _ ?_
      rcases hc with hc | hc
      · exact nne _ _ _ _ hc (by decide)
      · exact nne _ _ _ _ hc (by decide)
    · simp [h1]
    · simp [h2]
    · simp [h16]
    · simp

/-- own -/
theorem own_ok {d : Nat} {H : Hp} {x : AV} {es : List AV} {l : List (List (List Nat))} (hx : LitSl H x es) (ht : TmsL H es l) (hl2 : ∀ t, t ∈ l → 0 < t.length ∧ t.length ≤ 64) (hll : l.length < 500) (h0l : 0 < l.length) :
    Go.Ab.Fn Tryz.env (d + 2) 20 [ruleV x] H (RulePost H l) := by
  refine Fn.enter sm20 fk20 fn20 body20 (by rw [nt20]; exact Nat.le_of_ble_eq_true rfl) (by rw [nt20]; decide) ?_
  rw [nt20]
  have a0 : argS [ruleV x] 0 = ruleV x := rfl
  generalize argS [ruleV x] = s at a0
  repeat refine G.seq ?_
  refine G.run v20_0 ?_
  simp [a0, tz30, ruleV]
  refine G.genH fun H1 hH1 => ?_
  have n1 : H1.next = H.next + 2 := by rw [hH1]; rfl
  have k1 : Kept H H1 := by rw [hH1]; exact Kept.new.newR
  have t1 : H1.get H.next = some (.cells (ruleC x) 30 false) := by rw [hH1, Hp.new_get_ne _ _ _ (by rw [Hp.new_next]; omega)]; exact Hp.new_get_eq _ _ _ rfl
  have t2 : H1.get (H.next + 1) = some (.cells [.str [], .nilSlice, .nilSlice] 30 false) := by rw [hH1]; exact Hp.new_get_eq _ _ _ rfl
  clear hH1
  repeat refine G.seq ?_
  refine G.run v20_1 ?_
  have l1 : loadS Tryz.env 25 H1 (H.next, 1) = some .nilSlice := load_one tg25 ts25 t1 rfl
  simp [tf30_0, tf27_1, l1]
  refine (clone_nil (d := d) (H := H1.skip)).use ?_
  rintro v H2 ⟨rfl, rfl⟩
  simp [tf30_0, tf27_1]
  rw [store_at (H := H1.skip.skip) (c := ruleC x) (c' := ruleC x) (e := 30) (o := false) ts25 t1 (by simp) (by simp)]
  simp
  refine G.genH fun H2 hH2 => ?_
  have n2 : H2.next = H1.next + 2 := by rw [hH2]; rfl
  have k2 : Kept H H2 := by rw [hH2]; exact k1.skipR.skipR.put (Nat.le_refl _)
  have t3 : H2.get H.next = some (.cells (ruleC x) 30 false) := by rw [hH2]; exact Hp.put_get_eq _ _ _
  have t4 : H2.get (H.next + 1) = some (.cells [.str [], .nilSlice, .nilSlice] 30 false) := by rw [hH2, Hp.put_get_ne _ _ _ _ (by omega)]; exact t2
  clear hH2
  repeat refine G.seq ?_
  refine G.run v20_2 ?_
  have l2 : loadS Tryz.env 28 H2 (H.next, 2) = some x := load_one tg28 ts28 t3 rfl
  simp [tf30_1, l2]
  have hle : es.length = l.length := ht.length
  refine (clone_lits (d := d) (H := H2.skip) ((hx.kept k2).kept (Kept.refl H2).skipR) ht.plainly (by omega) (by omega)).use ?_
  rintro v H3 ⟨k3, lv, bv⟩
  rcases lv with ⟨_, rfl⟩ | ⟨nb, op, o, rfl, g1, g2, g3⟩
  · simp at hle; omega
  have k3' : Kept H2 H3 := k3.skip
  have hbv : H2.next + 1 ≤ nb := bv
  have t5 : H3.get H.next = some (.cells (ruleC x) 30 false) := (k3'.get _ (by omega)).trans t3
  have t6 : H3.get (H.next + 1) = some (.cells [.str [], .nilSlice, .nilSlice] 30 false) := (k3'.get _ (by omega)).trans t4
  simp [tf30_1]
  rw [store_at (H := H3.skip) (c := ruleC x) (c' := ruleC (.slice nb 0 es.length es.length op)) (e := 30) (o := false) ts28 t5 (by simp) (by simp)]
  simp
  refine G.genH fun H4 hH4 => ?_
  have n4 : H4.next = H3.next + 1 := by rw [hH4]; rfl
  have k4 : Kept H H4 := by rw [hH4]; exact (k2.trans k3').skipR.put (Nat.le_refl _)
  have t7 : H4.get H.next = some (.cells (ruleC (.slice nb 0 es.length es.length op)) 30 false) := by rw [hH4]; exact Hp.put_get_eq _ _ _
  have t8 : H4.get (H.next + 1) = some (.cells [.str [], .nilSlice, .nilSlice] 30 false) := by rw [hH4, Hp.put_get_ne _ _ _ _ (by omega)]; exact t6
  have t9 : H4.get nb = some (.cells (cellsL es) 55 o) := by rw [hH4, Hp.put_get_ne _ _ _ _ (by omega)]; exact g1
  clear hH4
  have := k3'.le
  repeat refine G.seq ?_
  refine G.run v20_3 ?_
  have l3 : loadS Tryz.env 28 H4 (H.next, 2) = some (.slice nb 0 es.length es.length op) := load_one tg28 ts28 t7 rfl
  have x3 : lenS Tryz.env 28 (.slice nb 0 es.length es.length op) = some (nI es.length) := rfl
  simp [tf30_1, l3, x3]
  refine G.block (G.loop ?_)
  rw [hle] at t7 ⊢
  exact own_loop g3.2 (d := d) (b1 := H.next) (b2 := H.next + 1) (nb := nb) (l := l) hl2 hll (Nat.le_refl _) (Nat.le_succ _) (by omega) h0l l.length 0 _ H4 es (by omega) hle (ht.kept k4) t7 t8 t9 (by omega) (by omega) (by omega) k4 (by simp) (by simp [Hp.new_next]) (by simp) (by simp)
end
end Go.Proofs
end
