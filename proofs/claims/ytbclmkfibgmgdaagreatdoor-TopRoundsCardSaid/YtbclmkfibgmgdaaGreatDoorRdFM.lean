/- Minimal. The search over numbers, for the kernel. Rounds, as numbers: what is to be so of all the lists of lengths. Conditions: none. -/
import Derived.Test.YtbclmkfibgmgdaaGreatDoorRdFF
import Derived.Test.YtbclmkfibgmgdaaGreatDoorRdFJ
import Derived.Test.YtbclmkfibgmgdaaGreatDoorRdFP
import Derived.Test.YtbclmkfibgmgdaaGreatDoorRdSI
section
namespace Go.Proofs
open Go Go.Ab
set_option linter.unusedVariables false
set_option linter.unusedSimpArgs false
noncomputable section

/-- the least part of a body that is the same as it -/
def minGo (N : Nat) : Nat → List (List (List Nat)) → Nat → Option (List (List (List Nat)))
  | 0, _, _ => none
  | n + 1, out, i =>
    if i < out.length then
      match laidF (out.eraseIdx i) out N with
      | some .yes => minGo N n (out.eraseIdx i) i
      | some .no => minGo N n out (i + 1)
      | _ => none
    else some out

theorem good_erase {l : List (List (List Nat))} (h : GoodBody IsName l) (i : Nat) : GoodBody IsName (l.eraseIdx i) :=
  ⟨Nat.le_trans (List.length_eraseIdx_le ..) h.1, fun t ht => h.2 t (List.mem_of_mem_eraseIdx ht)⟩

theorem slice_lo {H : Hp} {x : AV} {es : List AV} (hx : LitSl H x es) {i : Nat} (hi : i < es.length) : ∃ y, sliceA Tryz.env 28 x none (some (nI i)) none = some y ∧ PartSl H y (es.take i) ∧ sized y 1 = true ∧ y.cells = [y] ∧ Plainly y := by
  rcases hx with ⟨rfl, rfl⟩ | ⟨b, op, o, rfl, h2, h3, h4, rfl⟩
  · simp at hi
  · refine ⟨.slice b 0 i es.length 9, ?_, .inr ⟨b, 0, es.length, 9, _, o, by rw [List.length_take, Nat.min_eq_left (by omega)], h2, h3, ?_⟩, rfl, rfl, rfl, beq_slice ..⟩
    · unfold sliceA
      rw [tu28]
      show sliceSl 55 b 0 es.length es.length 9 none (some (nI i)) none Tryz.env = _
      unfold sliceSl
      rw [ts55]
      show (Bool.rec none (sliceOp b 0 0 i es.length 8 9 none (some (nI i)) none) (within 0 i es.length es.length && boundsOk (some (nI i)) none) : Option AV) = _
      have hw : (within 0 i es.length es.length && boundsOk (some (nI i)) none) = true := by
        unfold within
        rw [Nat.ble_eq_true_of_le (Nat.zero_le i), Nat.ble_eq_true_of_le (show i ≤ es.length by omega), Nat.ble_eq_true_of_le (Nat.le_refl es.length)]; rfl
      rw [hw]
      show sliceOp b 0 0 i es.length 8 9 none (some (nI i)) none = _
      unfold sliceOp
      have : Nat.beq es.length 0 = false := by
        cases hc : Nat.beq es.length 0 with
        | false => rfl
        | true => have := Nat.eq_of_beq_eq_true hc; omega
      simp only [this]
      rfl
    · rw [List.length_take, Nat.min_eq_left (by omega)]
      have := cut_mid [] (cellsL (es.take i)) (cellsL (es.drop i))
      rw [cellsL_length, List.length_take, Nat.min_eq_left (by omega)] at this
      rw [← cellsL_append, List.take_append_drop] at this
      exact this
theorem slice_hi {H : Hp} {x : AV} {es : List AV} (hx : LitSl H x es) {i : Nat} (hi : i < es.length) : ∃ y, sliceA Tryz.env 28 x (some (nI (i + 1))) none none = some y ∧ PartSl H y (es.drop (i + 1)) ∧ sized y 1 = true ∧ y.cells = [y] ∧ scalars [y] = true := by
  rcases hx with ⟨rfl, rfl⟩ | ⟨b, op, o, rfl, h2, h3, h4, rfl⟩
  · simp at hi
  · have hs : sliceA Tryz.env 28 (.slice b 0 es.length es.length 9) (some (nI (i + 1))) none none = sliceOp b 0 (i + 1) es.length es.length 8 9 (some (nI (i + 1))) none none := by
      unfold sliceA
      rw [tu28]
      show sliceSl 55 b 0 es.length es.length 9 (some (nI (i + 1))) none none Tryz.env = _
      unfold sliceSl
      rw [ts55]
      show (Bool.rec none (sliceOp b 0 (i + 1) es.length es.length 8 9 (some (nI (i + 1))) none none) (within (i + 1) es.length es.length es.length && boundsOk none none) : Option AV) = _
      have hw : (within (i + 1) es.length es.length es.length && boundsOk none none) = true := by
        unfold within
        rw [Nat.ble_eq_true_of_le (show i + 1 ≤ es.length by omega), Nat.ble_eq_true_of_le (Nat.le_refl es.length)]; rfl
      rw [hw]
    by_cases he : es.length = i + 1
    · refine ⟨.empty, ?_, .inl ⟨.inr rfl, List.drop_of_length_le (by omega)⟩, rfl, rfl, rfl⟩
      rw [hs]
      unfold sliceOp
      rw [he]
      simp only [natBeq_refl]
    · refine ⟨.slice b (0 + (i + 1) * 8) (es.length - (i + 1)) (es.length - (i + 1)) 9, ?_, .inr ⟨b, _, _, _, _, o, by rw [List.length_drop], h2, h3, ?_⟩, rfl, rfl, rfl⟩
      · rw [hs]
        unfold sliceOp
        have : Nat.beq es.length (i + 1) = false := by
          cases hc : Nat.beq es.length (i + 1) with
          | false => rfl
          | true => exact absurd (Nat.eq_of_beq_eq_true hc) he
        simp only [this]
        rfl
      · have := cut_mid (cellsL (es.take (i + 1))) (cellsL (es.drop (i + 1))) []
        rw [cellsL_length, cellsL_length, List.length_take, Nat.min_eq_left (by omega), List.append_nil, ← cellsL_append, List.take_append_drop] at this
        rw [Nat.zero_add]
        exact this

theorem plainly_one {x : AV} (hx : Plainly x) : sized x 1 = true ∧ x.cells = [x] := by
  cases x <;> first | exact ⟨rfl, rfl⟩ | (have := hx.1; cases this)
/-- what stands behind Minimal's heap -/
structure MinInv (b2 b5 : Nat) (H0 H : Hp) (x : AV) (es : List AV) (l : List (List (List Nat))) : Prop where
  k : Kept H0 H
  l2 : H0.next ≤ b2
  l5 : H0.next ≤ b5
  n2 : b2 < H.next
  n5 : b5 < H.next
  ne : b2 ≠ b5
  g2 : H.get b2 = some (.cells [.str [], .nilSlice, .nilSlice] 30 false)
  g5 : H.get b5 = some (.cells (ruleC x) 30 false)
  sl : LitSl H x es
  tms : TmsL H es l
theorem MinInv.move {b2 b5 : Nat} {H0 H H' : Hp} {x : AV} {es : List AV} {l : List (List (List Nat))} (r : MinInv b2 b5 H0 H x es l) (k : Kept H H') : MinInv b2 b5 H0 H' x es l :=
  ⟨r.k.trans k, r.l2, r.l5, Nat.lt_of_lt_of_le r.n2 k.le, Nat.lt_of_lt_of_le r.n5 k.le, r.ne, (k.get _ r.n2).trans r.g2, (k.get _ r.n5).trans r.g5, r.sl.kept k, r.tms.kept k⟩
/-- what a call of Minimal does -/
def MinPost (H0 : Hp) (l : List (List (List Nat))) (v : AV) (H' : Hp) : Prop := ∃ x es, v = .tup [ruleV x, nI 0] ∧ Kept H0 H' ∧ LitSl H' x es ∧ TmsL H' es l

/-- the less one is made -/
theorem minimal_less {d b2 b5 i : Nat} {H0 H : Hp} {x : AV} {es : List AV} {l : List (List (List Nat))} {s : Store} {td : List Item} {Q : AV → Hp → Prop} (r : MinInv b2 b5 H0 H x es l) (hi : i < es.length) (hl : es.length < 500) (s5 : s 5 = .ptr b5 0) (s6 : s 6 = nI i)
    (hQ : ∀ s' H' x' es' b7, MinInv b2 b5 H0 H' x es l → H'.get b7 = some (.cells (ruleC x') 30 false) → b7 < H'.next → H0.next ≤ b7 → b7 ≠ b5 → LitSl H' x' es' → TmsL H' es' (l.eraseIdx i) → s' 7 = .ptr b7 0 → (∀ j, j < 7 → s' j = s j) → G Tryz.env (d + 2) ⟨10, 63, none⟩ td s' H' Q) :
    G Tryz.env (d + 2) ⟨10, 63, none⟩ (.code (.region 9 R10_9 true) :: td) s H Q := by
  refine G.drawn rfl v10_9 w10_9 rfl ?_
  have kr : Kept H ⟨H.get, H.next + 16⟩ := .room
  have r1 := r.move kr
  have so := ruleC_same r.sl.plain
  have l1 : loadS Tryz.env 27 ⟨H.get, H.next + 16⟩ (b5, 0) = some (.agg [.str [112], .nilSlice]) := load_agg tg27 ts27 r.g5 rfl
  have l2 : loadS Tryz.env 28 ⟨H.get, H.next + 16⟩ (b5, 2) = some x := load_one tg28 ts28 r.g5 rfl
  obtain ⟨y0, p1, p2, p3, p4, p5⟩ := slice_lo r.sl hi
  obtain ⟨y1, q1, q2, q3, q4, q5⟩ := slice_hi r.sl hi
  simp [s5, s6, tf30_0, tf30_1, l1, l2]
  rw [rdB_some (H := ⟨H.get, H.next + 16⟩) _ r.g5]
  refine ⟨readOk_first r.g5 so, ?_⟩
  rw [rdB_some (H := ⟨H.get, H.next + 16⟩) _ r.g5]
  refine ⟨readOk_first r.g5 so, ?_⟩
  simp [s5, s6, p1, tf30_1, l2]
  rw [rdB_some (H := ⟨H.get, H.next + 16⟩) _ r.g5]
  refine ⟨readOk_first r.g5 so, ?_⟩
  have ble2 : Nat.ble 2 16777216 = true := rfl
  simp [s5, s6, n_add (E := Tryz.env) 3 true i 1 (by omega), q1, buildSliceS, te83, ts28, tz28, fillES, rep, sliceTo, p3, p4, q3, q4, ble2]
  refine ⟨by decide, ?_⟩
  have k1 : Kept H ((⟨H.get, H.next + 16⟩ : Hp).put (H.next + 11) (.cells [y0, y1] 28 false)) := kr.put (by omega)
  have hpl := r.tms.plainly
  refine (concat_ok (d := d) (q := H.next + 11) (H := (⟨H.get, H.next + 16⟩ : Hp).put (H.next + 11) (.cells [y0, y1] 28 false)) (es := es.take i) (bs := es.drop (i + 1)) (Hp.put_get_eq _ _ _) (by rw [Hp.put_next]; show H.next + 11 < H.next + 16; omega) (p2.kept k1) (q2.kept k1)
    (by rw [List.length_take, List.length_drop]; omega) (fun a ha => hpl a (List.mem_of_mem_take ha)) (fun a ha => hpl a (List.mem_of_mem_drop ha))).use ?_
  rintro v H1 ⟨k2, lv, bv⟩
  have k3 : Kept H H1 := k1.trans k2
  have r3 := r.move k3
  have nle : H.next + 16 ≤ H1.next := k2.le
  refine ⟨reads_keep (by intro q hq; simp at hq; rcases hq with rfl | rfl | rfl <;> exact .inr ⟨r3.g5, so⟩), ?_⟩
  obtain ⟨v1, v2⟩ := plainly_one lv.plain
  simp [s5, s6, buildS, tz30, tu30, tk30, fillSS, tzF30_0n, tzF30_0t, tzF30_0o, tzF30_1n, tzF30_1t, tzF30_1o, ts27, ts28, v1, v2]
  refine ⟨by decide, ?_⟩
  rw [store_at (c := [.str [], .nilSlice, .nilSlice]) (c' := ruleC v) (e := 30) (o := false) ts30 (Hp.put_get_eq _ _ _) (by
    have h1 : scalars (AV.agg (ruleC v)).cells = true := lv.plain.1
    rw [h1]; rfl) (by simp)]
  simp
  refine ⟨reads_ahead (by simp [bitAt]), ?_⟩
  have k4 : Kept H (H1.put (H.next + 14) (.cells [.str [], .nilSlice, .nilSlice] 30 false)) := k3.put (by omega)
  have k5 : Kept H ((H1.put (H.next + 14) (.cells [.str [], .nilSlice, .nilSlice] 30 false)).put (H.next + 14) (.cells (ruleC v) 30 false)) := k4.put (by omega)
  have hn5 := r.n5
  have hk0 := r.k.le
  have g55 : ∀ b, b ≠ H.next + 14 → ((H1.put (H.next + 14) (.cells [.str [], .nilSlice, .nilSlice] 30 false)).put (H.next + 14) (.cells (ruleC v) 30 false)).get b = H1.get b := fun b hb => (Hp.put_get_ne _ _ _ _ hb).trans (Hp.put_get_ne _ _ _ _ hb)
  refine hQ _ _ v (es.take i ++ es.drop (i + 1)) (H.next + 14) (r.move k5) (Hp.put_get_eq _ _ _) (by rw [Hp.put_next, Hp.put_next]; omega) (by omega) (by omega) ?_ ?_ (by simp) ?_
  · rcases lv with h | ⟨b, op, o, e1, e2, e3, e4⟩
    · exact .inl h
    · refine .inr ⟨b, op, o, e1, (g55 b ?_).trans e2, by rw [Hp.put_next, Hp.put_next]; exact e3, e4⟩
      rw [e1] at bv
      have : H.next + 16 ≤ b := bv
      omega
  · have ht := r.tms.kept k5
    rw [List.eraseIdx_eq_take_drop_succ]
    exact (ht.take i).append (ht.drop (i + 1))
  · intro j hj
    simp only [setS_eq]
    have : ∀ n, 7 ≤ n → j ≠ n := fun n hn => by omega
    simp [this]

theorem minimal_loop {d b2 b5 N : Nat} {H0 : Hp} {out : List (List (List Nat))} : ∀ (n i : Nat) (s : Store) (H : Hp) (x : AV) (es : List AV) (l : List (List (List Nat))), minGo N n l i = some out → i ≤ 1000 → GoodBody IsName l → MinInv b2 b5 H0 H x es l →
    s 2 = .ptr b2 0 → s 5 = .ptr b5 0 → s 6 = nI i →
    G Tryz.env (d + 7) ⟨10, 63, none⟩ [.code L10_0, .inLoop L10_0, .inBlock 0, .code (.seq (.region 18 R10_18 false) .ret)] s H (MinPost H0 out) := by
  intro n
  induction n with
  | zero => intro i s H x es l h; cases h
  | succ n ih =>
    intro i s H x es l h hi hg r s2 s5 s6
    have hlen := r.tms.length
    rw [minGo] at h
    have l1 : loadS Tryz.env 28 H (b5, 2) = some x := load_one tg28 ts28 r.g5 rfl
    have hx : lenS Tryz.env 28 x = some (nI l.length) := by
      rw [lenS_slice x tu28, ← hlen]
      rcases r.sl with ⟨rfl, rfl⟩ | ⟨b, op, o, rfl, _⟩ <;> rfl
    refine G.seq (G.seq (G.run v10_8 ?_))
    simp [s5, s6, tf30_1, l1, hx]
    by_cases hil : i < l.length
    · rw [if_pos hil] at h
      refine G.cond (t := true) (by simp [hil]) (G.skip (G.block ?_))
      refine G.seq ?_
      have h64 := hg.1
      refine minimal_less (d := d + 5) (i := i) r (by omega) (by omega) (by simp [s5]) (by simp [s6]) ?_
      intro s' H' x' es' b7 r' g7 n7 l7 n75 sl' tms' s7 hs'
      have hg' := good_erase hg i
      have e2 : s' 2 = .ptr b2 0 := by rw [hs' 2 (by omega)]; simp [s2]
      have e5 : s' 5 = .ptr b5 0 := by rw [hs' 5 (by omega)]; simp [s5]
      have e6 : s' 6 = nI i := by rw [hs' 6 (by omega)]; simp [s6]
      repeat refine G.seq ?_
      refine G.run v10_10 ?_
      have l2 : loadS Tryz.env 30 H' (b7, 0) = some (ruleV x') := load_agg tg30 ts30 g7 rfl
      have l3 : loadS Tryz.env 30 H' (b5, 0) = some (ruleV x) := load_agg tg30 ts30 r'.g5 rfl
      simp [s7, l2]
      have ksk : Kept H' H'.skip := (Kept.refl H').skipR
      have bd' : BodySl H'.skip H'.skip.next [101] x' (l.eraseIdx i) := (sl'.kept ksk).body (tms'.kept ksk)
      refine (plainC (d + 2) H'.skip H'.skip.next x' _ bd' hg' (Nat.le_refl _)).use ?_
      rintro v H1 ⟨rfl, k1⟩
      have k1' : Kept H' H1 := k1.skip
      simp
      refine G.cond (t := false) (by simp) (G.skip ?_)
      repeat refine G.seq ?_
      refine G.run v10_12 ?_
      have g71 : H1.get b7 = some (.cells (ruleC x') 30 false) := (k1'.get _ n7).trans g7
      have r1 := r'.move k1'
      have l4 : loadS Tryz.env 30 H1 (b7, 0) = some (ruleV x') := load_agg tg30 ts30 g71 rfl
      have l5 : loadS Tryz.env 30 H1 (b5, 0) = some (ruleV x) := load_agg tg30 ts30 r1.g5 rfl
      simp [s7, e5, l4, l5]
      have ksk1 : Kept H1 H1.skip := (Kept.refl H1).skipR
      have bdl : BodySl H1.skip H1.skip.next [101] x' (l.eraseIdx i) := ((sl'.kept k1').kept ksk1).body ((tms'.kept k1').kept ksk1)
      have bdr : BodySl H1.skip H1.skip.next [101] x l := (r1.sl.kept ksk1).body (r1.tms.kept ksk1)
      cases hr : laidF (l.eraseIdx i) l N with
      | none => rw [hr] at h; cases h
      | some ry =>
        rw [hr] at h
        refine (within_ok (d := d + 3) (H := H1.skip) (mayC (d + 1)) (plainC d) bdl bdr hg' hg hr).use ?_
        rintro v H2 ⟨rfl, k2⟩
        have k2' : Kept H1 H2 := k2.skip
        have r2 := r1.move k2'
        have g72 : H2.get b7 = some (.cells (ruleC x') 30 false) := (k2'.get _ (by have := k1'.le; omega)).trans g71
        have sl2 := (sl'.kept k1').kept k2'
        have tms2 := (tms'.kept k1').kept k2'
        simp
        refine G.block ?_
        repeat refine G.seq ?_
        refine G.run v10_14 ?_
        cases ry with
        | many => cases h
        | yes =>
          simp
          refine G.cond (t := false) (by simp) ?_
          repeat refine G.seq ?_
          refine G.run v10_16 ?_
          simp
          refine G.cond (t := true) (by simp) ?_
          refine G.run v10_17 ?_
          have l6 : loadS Tryz.env 30 H2 (b7, 0) = some (.agg (ruleC x')) := load_agg tg30 ts30 g72 rfl
          simp [s7, e5, l6]
          rw [store_at (H := H2.skip) (c := ruleC x) (c' := ruleC x') (e := 30) (o := false) ts30 r2.g5 (by
            have h1 : scalars (AV.agg (ruleC x')).cells = true := sl2.plain.1
            rw [h1]; rfl) (by simp)]
          simp
          have kp : ∀ b, b ≠ b5 → (H2.skip.put b5 (.cells (ruleC x') 30 false)).get b = H2.get b := fun b hb => Hp.put_get_ne _ _ _ _ hb
          have ne5 : ∀ b c t o, H2.get b = some (.cells c t o) → t ≠ 30 → b ≠ b5 := by
            intro b c t o hb ht e
            subst e; rw [r2.g5] at hb; exact ht (AObj.cells.inj (Option.some.inj hb)).2.1.symm
          refine G.inBlock (G.inBlock (G.inLoop (ih i _ (H2.skip.put b5 (.cells (ruleC x') 30 false)) x' es' (l.eraseIdx i) h hi hg' ⟨r2.k.skipR.put r2.l5, r2.l2, r2.l5, ?_, ?_, r2.ne, (kp _ r2.ne).trans r2.g2, Hp.put_get_eq _ _ _, ?_, ?_⟩ ?_ ?_ ?_)))
          · rw [Hp.put_next, Hp.skip_next]; have := r2.n2; omega
          · rw [Hp.put_next, Hp.skip_next]; have := r2.n5; omega
          · rcases sl2 with h | ⟨b, op, o, f1, f2, f3, f4⟩
            · exact .inl h
            · exact .inr ⟨b, op, o, f1, (kp b (ne5 _ _ _ _ f2 (by decide))).trans f2, by rw [Hp.put_next, Hp.skip_next]; omega, f4⟩
          · refine tms2.move (by rw [Hp.put_next, Hp.skip_next]; omega) fun b c hb hc => kp b ?_
            rcases hc with hc | hc
            · exact ne5 _ _ _ _ hc (by decide)
            · exact ne5 _ _ _ _ hc (by decide)
          · simp [e2]
          · simp [e5]
          · simp [e6]
        | no =>
          simp
          refine G.cond (t := false) (by simp) ?_
          repeat refine G.seq ?_
          refine G.run v10_16 ?_
          simp
          refine G.cond (t := false) (by simp) ?_
          refine G.run v10_13 ?_
          simp [e6, n_add (E := Tryz.env) 3 true i 1 (by omega)]
          refine G.inBlock (G.inBlock (G.inLoop (ih (i + 1) _ H2 x es l h (by omega) hg r2 ?_ ?_ ?_)))
          · simp [e2]
          · simp [e5]
          · simp
    · rw [if_neg hil] at h
      cases h
      refine G.cond (t := false) (by simp [hil]) (G.exit rfl ?_)
      repeat refine G.seq ?_
      refine G.run v10_18 ?_
      have l2 : loadS Tryz.env 30 H (b5, 0) = some (.agg (ruleC x)) := load_agg tg30 ts30 r.g5 rfl
      simp [s2, s5, l2]
      rw [store_at (H := H.skip) (c := [.str [], .nilSlice, .nilSlice]) (c' := ruleC x) (e := 30) (o := false) ts30 r.g2 (by
        have h1 : scalars (AV.agg (ruleC x)).cells = true := r.sl.plain.1
        rw [h1]; rfl) (by simp)]
      simp
      have kp : ∀ b, b ≠ b2 → (H.skip.put b2 (.cells (ruleC x) 30 false)).get b = H.get b := fun b hb => Hp.put_get_ne _ _ _ _ hb
      have ne2 : ∀ b c t o, H.get b = some (.cells c t o) → t ≠ 30 → b ≠ b2 := by
        intro b c t o hb ht e
        subst e; rw [r.g2] at hb; exact ht (AObj.cells.inj (Option.some.inj hb)).2.1.symm
      refine G.ret fn10 (l := [ruleV x, nI 0]) ?_ ⟨x, es, rfl, r.k.skipR.put r.l2, ?_, ?_⟩
      · rw [res10]
        have l3 : loadS Tryz.env 30 (H.skip.put b2 (.cells (ruleC x) 30 false)) (b2, 0) = some (ruleV x) := load_agg tg30 ts30 (Hp.put_get_eq _ _ _) rfl
        simp [resL, resS, s2, l3]
      · rcases r.sl with h | ⟨b, op, o, f1, f2, f3, f4⟩
        · exact .inl h
        · exact .inr ⟨b, op, o, f1, (kp b (ne2 _ _ _ _ f2 (by decide))).trans f2, by rw [Hp.put_next, Hp.skip_next]; omega, f4⟩
      · refine r.tms.move (by rw [Hp.put_next, Hp.skip_next]; omega) fun b c hb hc => kp b ?_
        rcases hc with hc | hc
        · exact ne2 _ _ _ _ hc (by decide)
        · exact ne2 _ _ _ _ hc (by decide)

/-- Minimal -/
theorem minimal_ok {d n N : Nat} {H : Hp} {x : AV} {es : List AV} {l out : List (List (List Nat))} (hx : LitSl H x es) (ht : TmsL H es l) (hg : GoodBody IsName l) (h0 : 0 < l.length) (hgo : minGo N n l 0 = some out) :
    Go.Ab.Fn Tryz.env (d + 8) 10 [ruleV x] H (MinPost H out) := by
  refine Fn.enter sm10 fk10 fn10 body10 (by rw [nt10]; exact Nat.le_of_ble_eq_true rfl) (by rw [nt10]; decide) ?_
  rw [nt10]
  have a0 : argS [ruleV x] 0 = ruleV x := rfl
  generalize argS [ruleV x] = s at a0
  repeat refine G.seq ?_
  refine G.run v10_0 ?_
  simp [a0, ruleV, tz30]
  refine G.genH fun H1 hH1 => ?_
  have n1 : H1.next = H.next + 2 := by rw [hH1]; rfl
  have k1 : Kept H H1 := by rw [hH1]; exact Kept.new.newR
  have t1 : H1.get H.next = some (.cells (ruleC x) 30 false) := by rw [hH1, Hp.new_get_ne _ _ _ (by rw [Hp.new_next]; omega)]; exact Hp.new_get_eq _ _ _ rfl
  have t2 : H1.get (H.next + 1) = some (.cells [.str [], .nilSlice, .nilSlice] 30 false) := by rw [hH1]; exact Hp.new_get_eq _ _ _ rfl
  clear hH1
  repeat refine G.seq ?_
  refine G.run v10_1 ?_
  have l1 : loadS Tryz.env 30 H1 (H.next, 0) = some (ruleV x) := load_agg tg30 ts30 t1 rfl
  simp [l1]
  have sk1 : Kept H H1.skip := k1.skipR
  refine (mayC (d + 3) H1.skip H1.skip.next x l ((hx.kept sk1).body (ht.kept sk1)) hg (Nat.le_refl _)).use ?_
  rintro v H2 ⟨rfl, k2⟩
  have k2' : Kept H1 H2 := k2.skip
  simp
  repeat refine G.seq ?_
  refine G.run v10_2 ?_
  simp
  refine G.cond (t := false) (by simp) (G.skip ?_)
  repeat refine G.seq ?_
  refine G.run v10_4 ?_
  have t3 : H2.get H.next = some (.cells (ruleC x) 30 false) := (k2'.get _ (by omega)).trans t1
  have l2 : loadS Tryz.env 30 H2 (H.next, 0) = some (ruleV x) := load_agg tg30 ts30 t3 rfl
  simp [l2]
  have sk2 : Kept H H2.skip := (k1.trans k2').skipR
  refine (plainC (d + 2) H2.skip H2.skip.next x l ((hx.kept sk2).body (ht.kept sk2)) hg (Nat.le_refl _)).use ?_
  rintro v H3 ⟨rfl, k3⟩
  have k3' : Kept H2 H3 := k3.skip
  simp
  refine G.cond (t := false) (by simp) (G.skip ?_)
  repeat refine G.seq ?_
  refine G.run v10_6 ?_
  have n2 := k2'.le
  have n3 := k3'.le
  have t4 : H3.get H.next = some (.cells (ruleC x) 30 false) := (k3'.get _ (by omega)).trans t3
  have l3 : loadS Tryz.env 30 H3 (H.next, 0) = some (ruleV x) := load_agg tg30 ts30 t4 rfl
  simp [l3]
  have kh3 : Kept H H3 := (k1.trans k2').trans k3'
  have sk3 : Kept H H3.skip := kh3.skipR
  have h64 := hg.1
  refine (own_ok (d := d + 5) (hx.kept sk3) (ht.kept sk3) (fun t ht => by rw [(hg.2 t ht).1]; omega) (by omega) h0).use ?_
  rintro v H4 ⟨x4, es4, rfl, k4, sl4, tms4⟩
  have k4' : Kept H3 H4 := k4.skip
  have n4 := k4'.le
  simp [tz30]
  rw [store_at (c := [.str [], .nilSlice, .nilSlice]) (c' := ruleC x4) (e := 30) (o := false) ts30 (by simp [Hp.skip_get, Hp.new_get_eq]) (by
    have h1 : scalars (AV.agg (ruleC x4)).cells = true := sl4.plain.1
    show (sized (.agg (ruleC x4)) 3 && scalars (AV.agg (ruleC x4)).cells) = true
    rw [h1]; rfl) (by simp [ruleV])]
  simp
  refine G.genH fun H5 hH5 => ?_
  have n5 : H5.next = H4.next + 2 := by rw [hH5]; rfl
  have k5 : Kept H4 H5 := by rw [hH5]; exact Kept.new.skipR.put (Nat.le_refl _)
  have t5 : H5.get H4.next = some (.cells (ruleC x4) 30 false) := by rw [hH5]; exact Hp.put_get_eq _ _ _
  clear hH5
  repeat refine G.seq ?_
  refine G.run v10_7 ?_
  simp
  refine G.block (G.loop ?_)
  have kall : Kept H H5 := (kh3.trans k4').trans k5
  refine minimal_loop (d := d) (b2 := H.next + 1) (b5 := H4.next) (H0 := H) n 0 _ H5 x4 es4 l hgo (by omega) hg ⟨kall, by omega, by omega, by omega, by omega, by omega, ?_, t5, sl4.kept k5, tms4.kept k5⟩ ?_ ?_ ?_
  · exact (k5.get _ (by omega)).trans ((k4'.get _ (by omega)).trans ((k3'.get _ (by omega)).trans ((k2'.get _ (by omega)).trans t2)))
  · simp [Hp.new_next]
  · simp
  · simp
end
end Go.Proofs
end
section
namespace Go.Ab
set_option linter.unusedVariables false
set_option linter.unusedSimpArgs false

/-- what was laid: the atoms from the one on, what is left to try of the others behind it, what had become of what -/
inductive Stk where
  | nil
  | cons (S Rk : List (Nat × Nat)) (p : Nat) (st : Stk)

/-- lay an arc: (x, y) are five times the numbers of its ends, (u, v) one more than the numbers of the other one's; what became of what is a number of base 32 -/
noncomputable def gLay (p x y u v : Nat) (yes : Nat → Option Bool) (no : Option Bool) : Option Bool :=
  Bool.rec
    (Bool.rec no
      (Bool.rec (Bool.rec no (yes p) (Nat.beq (Nat.land (Nat.shiftRight p y) 31) v)) (yes (Nat.add p (Nat.shiftLeft v y))) (Nat.beq (Nat.land (Nat.shiftRight p y) 31) 0))
      (Nat.beq (Nat.land (Nat.shiftRight p x) 31) u))
    (Bool.rec (Bool.rec no (yes (Nat.add p (Nat.shiftLeft u x))) (Nat.beq (Nat.land (Nat.shiftRight (Nat.add p (Nat.shiftLeft u x)) y) 31) v))
      (yes (Nat.add (Nat.add p (Nat.shiftLeft u x)) (Nat.shiftLeft v y))) (Nat.beq (Nat.land (Nat.shiftRight (Nat.add p (Nat.shiftLeft u x)) y) 31) 0))
    (Nat.beq (Nat.land (Nat.shiftRight p x) 31) 0)

noncomputable def gGo (R : List (Nat × Nat)) (n : Nat) : List (Nat × Nat) → List (Nat × Nat) → Stk → Nat → Option Bool :=
  Nat.rec (fun _ _ _ _ => none)
    (fun _ ih S Rk st p =>
      List.rec (Stk.rec (some false) (fun S' Rk' p' st' _ => ih S' Rk' st' p') st)
        (fun b Rk' _ => List.rec none
          (fun a S' _ => Prod.rec (fun x y => Prod.rec (fun u v => gLay p x y u v (fun p' => List.rec (some true) (fun _ _ _ => ih S' R (.cons S Rk' p st) p') S') (ih S Rk' st p)) b) a) S) Rk) n

def encS (l : List (Nat × Nat)) : List (Nat × Nat) := l.map fun a => (5 * a.1, 5 * a.2)
def encR (l : List (Nat × Nat)) : List (Nat × Nat) := l.map fun a => (a.1 + 1, a.2 + 1)
noncomputable def gLaid (R S : List (Nat × Nat)) : Option Bool := match S with
  | [] => some true
  | _ => gGo (encR R) 60000 (encS S) (encR R) .nil 0

/-! the numbers' names -/
def nm (c : Nat) : List Nat := [86, 48 + c / 8, 95, 48 + c % 8]
theorem nm_inj {a b : Nat} (h : nm a = nm b) : a = b := by
  unfold nm at h
  simp only [List.cons.injEq, and_true, true_and] at h
  omega
def nmA (a : Nat × Nat) : List (List Nat) := [nm a.1, nm a.2]
abbrev NM := PM (List Nat)
/-- the number says what became of what -/
structure NRel (p : NM) (q : Nat) : Prop where
  at_ : ∀ c, c < 31 → (plk (nm c) p = none ∧ Nat.land (Nat.shiftRight q (5 * c)) 31 = 0) ∨ ∃ v, v < 31 ∧ plk (nm c) p = some (nm v) ∧ Nat.land (Nat.shiftRight q (5 * c)) 31 = v + 1
  keys : (p.map (·.1)).Nodup

theorem digit_eq (q c : Nat) : Nat.land (Nat.shiftRight q (5 * c)) 31 = q / 32 ^ c % 32 := by
  show (q >>> (5 * c)) &&& 31 = _
  rw [show (31 : Nat) = 2 ^ 5 - 1 from rfl, Nat.and_two_pow_sub_one_eq_mod, Nat.shiftRight_eq_div_pow, Nat.pow_mul]
theorem shift_eq (v c : Nat) : Nat.shiftLeft v (5 * c) = v * 32 ^ c := by
  show v <<< (5 * c) = _
  rw [Nat.shiftLeft_eq, Nat.pow_mul]
/-- a digit that is 0 is set -/
theorem digit_set {q c v : Nat} (h0 : q / 32 ^ c % 32 = 0) (hv : v < 32) (d : Nat) : (q + v * 32 ^ c) / 32 ^ d % 32 = if d = c then v else q / 32 ^ d % 32 := by
  have hpos : ∀ k, 0 < 32 ^ k := fun k => Nat.pow_pos (by decide)
  rcases Nat.lt_trichotomy d c with h | h | h
  · rw [if_neg (by omega)]
    obtain ⟨e, rfl⟩ : ∃ e, c = d + (e + 1) := ⟨c - d - 1, by omega⟩
    have : v * 32 ^ (d + (e + 1)) = (v * 32 ^ e * 32) * 32 ^ d := by rw [Nat.pow_add, Nat.pow_succ]; simp only [Nat.mul_assoc, Nat.mul_comm, Nat.mul_left_comm]
    rw [this, Nat.add_mul_div_right _ _ (hpos d), Nat.add_mul_mod_self_right]
  · subst h
    rw [if_pos rfl, Nat.add_mul_div_right _ _ (hpos d), Nat.add_mod, h0, Nat.zero_add, Nat.mod_mod, Nat.mod_eq_of_lt hv]
  · rw [if_neg (by omega)]
    obtain ⟨e, rfl⟩ : ∃ e, d = c + (e + 1) := ⟨d - c - 1, by omega⟩
    rw [Nat.pow_add, ← Nat.div_div_eq_div_mul, ← Nat.div_div_eq_div_mul, Nat.add_mul_div_right _ _ (hpos c), Nat.pow_succ, Nat.mul_comm (32 ^ e) 32, ← Nat.div_div_eq_div_mul, ← Nat.div_div_eq_div_mul]
    have : (q / 32 ^ c + v) / 32 = q / 32 ^ c / 32 := by omega
    rw [this]

theorem plk_append (k : List Nat) (x v : List Nat) : ∀ p : NM, plk k (p ++ [(x, v)]) = match plk k p with | some w => some w | none => if k = x then some v else none
  | [] => by simp [plk]
  | (a, b) :: p => by
    simp only [List.cons_append, plk]
    split
    · rfl
    · exact plk_append k x v p
theorem plk_none {k : List Nat} : ∀ {p : NM}, plk k p = none → k ∉ p.map (·.1)
  | [], _ => by simp
  | (a, b) :: p, h => by
    simp only [plk] at h
    split at h
    · cases h
    · rename_i hn
      simp only [List.map_cons, List.mem_cons, not_or]
      exact ⟨hn, plk_none h⟩
theorem NRel.look {p : NM} {q c : Nat} (r : NRel p q) (hc : c < 31) : (plk (nm c) p = none ∧ Nat.beq (Nat.land (Nat.shiftRight q (5 * c)) 31) 0 = true) ∨ ∃ v, v < 31 ∧ plk (nm c) p = some (nm v) ∧ Nat.beq (Nat.land (Nat.shiftRight q (5 * c)) 31) 0 = false ∧ Nat.land (Nat.shiftRight q (5 * c)) 31 = v + 1 := by
  rcases r.at_ c hc with ⟨h1, h2⟩ | ⟨v, hv, h1, h2⟩
  · exact .inl ⟨h1, by rw [h2]; rfl⟩
  · exact .inr ⟨v, hv, h1, by rw [h2]; rfl, h2⟩
theorem NRel.set {p : NM} {q c v : Nat} (r : NRel p q) (hc : c < 31) (hv : v < 31) (h : plk (nm c) p = none) : NRel (p ++ [(nm c, nm v)]) (Nat.add q (Nat.shiftLeft (v + 1) (5 * c))) := by
  have h0 : q / 32 ^ c % 32 = 0 := by
    rcases r.at_ c hc with ⟨_, h2⟩ | ⟨w, _, h1, _⟩
    · rw [← digit_eq]; exact h2
    · rw [h] at h1; cases h1
  refine ⟨fun d hd => ?_, ?_⟩
  · rw [plk_append]
    have hdig : Nat.land (Nat.shiftRight (Nat.add q (Nat.shiftLeft (v + 1) (5 * c))) (5 * d)) 31 = if d = c then v + 1 else Nat.land (Nat.shiftRight q (5 * d)) 31 := by
      rw [digit_eq, digit_eq, shift_eq]
      exact digit_set h0 (by omega) d
    rw [hdig]
    by_cases hdc : d = c
    · subst hdc
      right
      exact ⟨v, hv, by rw [h]; simp, by simp⟩
    · have hne : nm d ≠ nm c := fun e => hdc (nm_inj e)
      rw [if_neg hdc]
      rcases r.at_ d hd with ⟨h1, h2⟩ | ⟨w, hw, h1, h2⟩
      · left; rw [h1]; exact ⟨by simp [hne], h2⟩
      · right; rw [h1]; exact ⟨w, hw, rfl, h2⟩
  · rw [List.map_append, List.nodup_append]
    refine ⟨r.keys, by simp, ?_⟩
    intro a ha b hb
    simp only [List.map_cons, List.map_nil, List.mem_singleton] at hb
    rintro rfl
    subst hb
    exact plk_none h ha

/-- forgetting what was set last -/
theorem prm_append {k v : List Nat} : ∀ {p : NM}, k ∉ p.map (·.1) → prm k (p ++ [(k, v)]) = p
  | [], _ => by simp [prm]
  | (a, b) :: p, h => by
    simp only [List.map_cons, List.mem_cons, not_or] at h
    simp only [List.cons_append, prm, if_neg h.1, prm_append h.2]
theorem prm_append_ne {k x v : List Nat} (hne : k ≠ x) : ∀ {p : NM}, prm k (p ++ [(x, v)]) = prm k p ++ [(x, v)]
  | [] => by simp [prm, hne]
  | (a, b) :: p => by
    simp only [List.cons_append, prm]
    split
    · rfl
    · rw [prm_append_ne hne]; rfl

/-- laying an arc -/
theorem lay_arc {p : NM} {q x y u v : Nat} (r : NRel p q) (hx : x < 31) (hy : y < 31) (hu : u < 31) (hv : v < 31) {yes : Nat → Option Bool} {no : Option Bool} {P : Option Bool → Prop}
    (hyes : ∀ p' l q', layF p [] (nmA (x, y)) (nmA (u, v)) = (p', l, true) → NRel p' q' → prmAll p' l = p → P (yes q')) (hno : ∀ l, layF p [] (nmA (x, y)) (nmA (u, v)) = (p, l, false) → P no) :
    P (gLay q (5 * x) (5 * y) (u + 1) (v + 1) yes no) := by
  unfold gLay
  have lay0 : layF p [] (nmA (x, y)) (nmA (u, v)) = match plk (nm x) p with
      | none => layF (p ++ [(nm x, nm u)]) [nm x] [nm y] [nm v]
      | some w => if w = nm u then layF p [] [nm y] [nm v] else (prmAll p [], [], false) := by
    show layF p [] [nm x, nm y] [nm u, nm v] = _
    conv => lhs; rw [layF]
    cases plk (nm x) p <;> rfl
  have lay1 : ∀ (p : NM) (fr : List (List Nat)), layF p fr [nm y] [nm v] = match plk (nm y) p with
      | none => (p ++ [(nm y, nm v)], fr ++ [nm y], true)
      | some w => if w = nm v then (p, fr, true) else (prmAll p fr, [], false) := by
    intro p fr
    rw [layF]
    split
    · rename_i h; simp [h, layF]
    · rename_i w h; simp [h, layF]
  rcases r.look hx with ⟨h1, h2⟩ | ⟨w, hw, h1, h2, h3⟩
  · rw [h2]
    have r1 := r.set hx hu h1
    have hkx := plk_none h1
    simp only [h1] at lay0
    rw [lay1] at lay0
    rcases r1.look hy with ⟨g1, g2⟩ | ⟨z, hz, g1, g2, g3⟩
    · simp only [g2]
      rw [g1] at lay0
      refine hyes _ _ _ lay0 (r1.set hy hv g1) ?_
      have hxy : nm y ≠ nm x := by
        intro e; rw [plk_append, e, h1] at g1; simp at g1
      have hky : nm y ∉ p.map (·.1) := by
        have := plk_none g1
        rw [List.map_append, List.mem_append, not_or] at this
        exact this.1
      show prm (nm y) (prm (nm x) (p ++ [(nm x, nm u)] ++ [(nm y, nm v)])) = p
      rw [prm_append_ne (Ne.symm hxy), prm_append hkx, prm_append hky]
    · simp only [g2]
      rw [g1] at lay0
      simp only [g3]
      by_cases hzv : z = v
      · subst hzv
        rw [show Nat.beq (z + 1) (z + 1) = true from Nat.beq_refl _]
        simp only [if_pos] at lay0
        exact hyes _ _ _ lay0 r1 (prm_append hkx)
      · rw [show Nat.beq (z + 1) (v + 1) = false from by rw [← Bool.not_eq_true]; intro e; have := Nat.eq_of_beq_eq_true e; omega]
        simp only [if_neg (fun e => hzv (nm_inj e) : ¬ nm z = nm v)] at lay0
        refine hno [] ?_
        rw [lay0]
        show (prm (nm x) (p ++ [(nm x, nm u)]), _, _) = _
        rw [prm_append hkx]
  · rw [h2]
    simp only [h3]
    simp only [h1] at lay0
    by_cases hwu : w = u
    · subst hwu
      rw [show Nat.beq (w + 1) (w + 1) = true from Nat.beq_refl _]
      simp only [if_pos] at lay0
      rw [lay1] at lay0
      rcases r.look hy with ⟨g1, g2⟩ | ⟨z, hz, g1, g2, g3⟩
      · simp only [g2]
        rw [g1] at lay0
        exact hyes _ _ _ lay0 (r.set hy hv g1) (prm_append (plk_none g1))
      · simp only [g2, g3]
        rw [g1] at lay0
        by_cases hzv : z = v
        · subst hzv
          rw [show Nat.beq (z + 1) (z + 1) = true from Nat.beq_refl _]
          simp only [if_pos] at lay0
          exact hyes _ _ _ lay0 r rfl
        · rw [show Nat.beq (z + 1) (v + 1) = false from by rw [← Bool.not_eq_true]; intro e; have := Nat.eq_of_beq_eq_true e; omega]
          simp only [if_neg (fun e => hzv (nm_inj e) : ¬ nm z = nm v)] at lay0
          exact hno [] lay0
    · rw [show Nat.beq (w + 1) (u + 1) = false from by rw [← Bool.not_eq_true]; intro e; have := Nat.eq_of_beq_eq_true e; omega]
      simp only [if_neg (fun e => hwu (nm_inj e) : ¬ nm w = nm u)] at lay0
      exact hno [] lay0

/-- the stacks: S, R are all the atoms -/
def SRel (R S : List (Nat × Nat)) : NM → List (Nat × List (List Nat)) → Stk → Prop
  | _, [], .nil => True
  | p, (j, l) :: st, .cons S' Rk' q stk => S' = encS (S.drop st.length) ∧ Rk' = encR (R.drop (j + 1)) ∧ NRel (prmAll p l) q ∧ SRel R S (prmAll p l) st stk
  | _, _, _ => False

theorem enc_dropS (l : List (Nat × Nat)) {n : Nat} (h : n < l.length) : encS (l.drop n) = (5 * l[n].1, 5 * l[n].2) :: encS (l.drop (n + 1)) := by
  rw [List.drop_eq_getElem_cons h]; rfl
theorem enc_dropR (l : List (Nat × Nat)) {n : Nat} (h : n < l.length) : encR (l.drop n) = (l[n].1 + 1, l[n].2 + 1) :: encR (l.drop (n + 1)) := by
  rw [List.drop_eq_getElem_cons h]; rfl
def Small (l : List (Nat × Nat)) : Prop := ∀ a, a ∈ l → a.1 < 31 ∧ a.2 < 31
def resL' (b : Bool) : LRes := if b then .yes else .no

theorem go_ok {R S : List (Nat × Nat)} (hR : Small R) (hS : Small S) : ∀ (n : Nat) (st : List (Nat × List (List Nat))) (stk : Stk) (k looks : Nat) (p : NM) (q : Nat) (r : Bool), looks + n ≤ 65536 → st.length < S.length → k ≤ R.length → NRel p q → SRel R S p st stk →
    gGo (encR R) n (encS (S.drop st.length)) (encR (R.drop k)) stk q = some r → laidGo (R.map nmA) (S.map nmA) n st k looks p = some (resL' r)
  | 0, _, _, _, _, _, _, _, _, _, _, _, _, h => by cases h
  | n + 1, st, stk, k, looks, p, q, r, hl, hst, hk, hp, hs, h => by
    unfold laidGo
    by_cases hkR : k < R.length
    · rw [if_pos (by simpa using hkR), if_neg (by omega)]
      rw [enc_dropS S hst, enc_dropR R hkR] at h
      have hSg : (S.map nmA)[st.length]? = some (nmA S[st.length]) := by simp [hst]
      have hRg : (R.map nmA)[k]? = some (nmA R[k]) := by simp [hkR]
      rw [hSg, hRg]
      have sa := hS S[st.length] (List.getElem_mem hst)
      have ra := hR R[k] (List.getElem_mem hkR)
      have h : gLay q (5 * S[st.length].1) (5 * S[st.length].2) (R[k].1 + 1) (R[k].2 + 1) (fun p' => List.rec (some true) (fun _ _ _ => gGo (encR R) n (encS (S.drop (st.length + 1))) (encR R) (.cons ((5 * S[st.length].1, 5 * S[st.length].2) :: encS (S.drop (st.length + 1))) (encR (R.drop (k + 1))) q stk) p') (encS (S.drop (st.length + 1))))
        (gGo (encR R) n ((5 * S[st.length].1, 5 * S[st.length].2) :: encS (S.drop (st.length + 1))) (encR (R.drop (k + 1))) stk q) = some r := h
      revert h
      refine lay_arc (P := fun o => o = some r → _) hp sa.1 sa.2 ra.1 ra.2 ?_ ?_
      · intro p' l q' hlay hp' hback h
        simp only [show nmA S[st.length] = nmA (S[st.length].1, S[st.length].2) from rfl, show nmA R[k] = nmA (R[k].1, R[k].2) from rfl, hlay]
        by_cases hmore : st.length + 1 < S.length
        · rw [if_pos (by simpa using hmore)]
          rw [enc_dropS S hmore] at h
          refine go_ok hR hS n ((k, l) :: st) (.cons ((5 * S[st.length].1, 5 * S[st.length].2) :: encS (S.drop (st.length + 1))) (encR (R.drop (k + 1))) q stk) 0 (looks + 1) p' q' r (by omega) hmore (Nat.zero_le _) hp' ⟨?_, rfl, ?_, ?_⟩ (by rw [List.length_cons, enc_dropS S hmore]; exact h)
          · rw [enc_dropS S hst]
          · rw [hback]; exact hp
          · rw [hback]; exact hs
        · rw [if_neg (by simpa using hmore)]
          have : S.drop (st.length + 1) = [] := List.drop_of_length_le (by omega)
          rw [this] at h
          cases h
          rfl
      · intro l hlay h
        simp only [show nmA S[st.length] = nmA (S[st.length].1, S[st.length].2) from rfl, show nmA R[k] = nmA (R[k].1, R[k].2) from rfl, hlay]
        refine go_ok hR hS n st stk (k + 1) (looks + 1) p q r (by omega) hst (by omega) hp hs ?_
        rw [enc_dropS S hst]; exact h
    · rw [if_neg (by simpa using hkR)]
      have : R.drop k = [] := List.drop_of_length_le (by omega)
      rw [this] at h
      cases st with
      | nil =>
        cases stk with
        | nil => cases h; rfl
        | cons _ _ _ _ => exact hs.elim
      | cons e st =>
        obtain ⟨j, l⟩ := e
        cases stk with
        | nil => exact hs.elim
        | cons S' Rk' q' stk =>
          obtain ⟨h1, h2, h3, h4⟩ := hs
          have h : gGo (encR R) n S' Rk' stk q' = some r := h
          rw [h1, h2] at h
          simp only [List.length_cons] at hst
          show laidGo (R.map nmA) (S.map nmA) n st (j + 1) looks (prmAll p l) = some (resL' r)
          rcases Nat.lt_or_ge j R.length with hj | hj
          · exact go_ok hR hS n st stk (j + 1) looks (prmAll p l) q' r (by omega) (by omega) hj h3 h4 h
          · -- nothing is left either way
            have e1 : R.drop (j + 1) = R.drop R.length := by rw [List.drop_of_length_le (by omega), List.drop_length]
            rw [e1] at h
            have := go_ok hR hS n st stk R.length looks (prmAll p l) q' r (by omega) (by omega) (Nat.le_refl _) h3 h4 h
            cases n with
            | zero => cases h
            | succ n =>
              unfold laidGo at this ⊢
              rw [if_neg (by simp)] at this
              rw [if_neg (by simp; omega)]
              exact this
theorem gLaid_ok {R S : List (Nat × Nat)} (hR : Small R) (hS : Small S) {r : Bool} (h : gLaid R S = some r) : laidF (R.map nmA) (S.map nmA) 60000 = some (resL' r) := by
  unfold laidF
  unfold gLaid at h
  cases S with
  | nil => cases h; rfl
  | cons a S =>
    rw [if_pos (by simp)]
    refine go_ok hR hS 60000 [] .nil 0 0 [] 0 r (by omega) (by simp) (Nat.zero_le _) ⟨fun c _ => .inl ⟨rfl, ?_⟩, by simp⟩ trivial h
    rw [digit_eq]; simp
end Go.Ab
end
section
namespace Go.Ab
def ringN (i n : Nat) : Nat → Nat → List (Nat × Nat)
  | 0, _ => []
  | c + 1, k => (8 * i + k % n, 8 * i + (k + 1) % n) :: ringN i n c (k + 1)
def ringsN : Nat → List Nat → List (Nat × Nat)
  | _, [] => []
  | i, n :: l => ringN i n n 0 ++ ringsN (i + 1) l
/-- one round of the list that follows -/
def eqB (a b : Bool) : Bool := bif a then b else not b
noncomputable def isB (o : Option Bool) (w : Bool) : Bool := Option.rec false (fun r => eqB r w) o
noncomputable def pairOk (A B : List Nat) : Bool := isB (gLaid (ringsN 0 A) (ringsN 0 B)) (nwinds B A)
noncomputable def rowOk (A : List Nat) : Bool := lists.all fun B => pairOk A B

/-- how many arcs the least one has -/
def aloneN (A : List Nat) (i n : Nat) : Nat → List Nat → Bool
  | _, [] => true
  | k, m :: l => (!(!(Nat.beq k i) && Nat.beq (n % m) 0 && (!(Nat.beq n m) || Nat.blt k i))) && aloneN A i n (k + 1) l
def arcsN (A : List Nat) : Nat → List Nat → Nat
  | _, [] => 0
  | i, n :: l => (bif aloneN A i n 0 A then n else 0) + arcsN A (i + 1) l
noncomputable def minN : Nat → List (Nat × Nat) → Nat → Option (List (Nat × Nat))
  | 0, _, _ => none
  | n + 1, out, i =>
    bif Nat.blt i out.length then
      match gLaid (out.eraseIdx i) out with
      | some true => minN n (out.eraseIdx i) i
      | some false => minN n out (i + 1)
      | none => none
    else some out
noncomputable def minOk (A : List Nat) : Bool := match minN 40 (ringsN 0 A) 0 with
  | some out => Nat.beq out.length (arcsN A 0 A) && (isB (gLaid out (ringsN 0 A)) true && isB (gLaid (ringsN 0 A) out) true)
  | none => false
end Go.Ab
end
