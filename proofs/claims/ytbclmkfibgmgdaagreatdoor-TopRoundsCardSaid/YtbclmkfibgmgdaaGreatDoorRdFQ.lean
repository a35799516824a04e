/- TopRounds, behind the lengths. Conditions: none. -/
import Derived.Test.YtbclmkfibgmgdaaGreatDoorRdFN
namespace Go.Proofs
open Go Go.Ab
set_option linter.unusedVariables false
set_option linter.unusedSimpArgs false
noncomputable section

theorem arcs_out {d : Nat} {x : AV} {A : List Nat} {td : List Item} {H : Hp} {Q : AV → Hp → Prop} (hl : A.length < 1000) (hx : IntSl H x A) (h0 : ∀ m, m ∈ A → m ≠ 0 ∧ m ≤ 5) : ∀ (c i : Nat) (s : Store) (acc : Nat), i + c = A.length → acc ≤ 5 * i →
    s 0 = x → s 68 = x → s 69 = nI A.length → s 70 = nI i → s 11 = nI acc →
    (∀ s', (∀ q, q < 11 ∨ (16 < q ∧ q < 68) → s' q = s q) → s' 11 = nI (acc + arcsN A i (A.drop i)) → G Tryz.env d ⟨3, 132, none⟩ td s' H Q) →
    G Tryz.env d ⟨3, 132, none⟩ (.code L3_1 :: .inLoop L3_1 :: .inBlock 0 :: td) s H Q := by
  intro c
  induction c with
  | zero =>
    intro i s acc hic hacc hs0 h68 h69 h70 h11 hQ
    refine G.seq (G.run v3_11 ?_)
    simp [h69, h70]
    refine G.seq (G.cond (t := false) (by simp; omega) ?_)
    refine G.exit rfl (hQ _ (fun q hq => ?_) ?_)
    · simp only [setS_eq]; rw [if_neg (by omega)]
    · rw [List.drop_of_length_le (by omega)]
      simp [h11, arcsN]
  | succ c ih =>
    intro i s acc hic hacc hs0 h68 h69 h70 h11 hQ
    have hi : i < A.length := by omega
    obtain ⟨b, n', cc, p, hxb, hix, hld⟩ := hx.at hi
    have hm := h0 A[i] (List.getElem_mem hi)
    have hd : A.drop i = A[i] :: A.drop (i + 1) := List.drop_eq_getElem_cons hi
    refine G.seq (G.run v3_11 ?_)
    simp [h69, h70]
    refine G.seq (G.cond (t := true) (by simp; omega) ?_)
    refine G.skip (G.seq (G.block (G.seq (G.run v3_12 ?_))))
    simp [h68, h70, hxb, hix, hld]
    repeat refine G.seq ?_
    refine G.run v3_13 ?_
    simp
    repeat refine G.seq ?_
    refine G.run v3_14 ?_
    simp [hs0, hx.len]
    refine G.block (G.loop ?_)
    refine arcs_in (i := i) (n := A[i]) (x := x) (A := A) hl hx (fun m hm => (h0 m hm).1) A.length 0 _ true (by omega) (by simp) (by simp) (by simp) (by simp) (by simp) (by simp) ?_
    intro s1 q1 q2
    rw [List.drop_zero, Bool.true_and] at q2
    have e : ∀ q, (q < 12 ∨ (16 < q ∧ q < 71)) → s1 q = s q := by
      intro q hq
      rw [q1 q (by omega)]
      simp only [setS_eq]
      have : ∀ n, (12 ≤ n ∧ n ≤ 14) ∨ 71 ≤ n → q ≠ n := fun n hn => by omega
      simp [this]
    have e13 : s1 13 = nI A[i] := by rw [q1 13 (by omega)]; simp
    refine G.seq (G.run v3_20 ?_)
    simp [q2]
    have key : ∀ (s2 : Store) (acc2 : Nat), acc2 = acc + (bif aloneN A i A[i] 0 A then A[i] else 0) → (∀ q, q < 11 ∨ (16 < q ∧ q < 71) → s2 q = s q) → s2 11 = nI acc2 →
        G Tryz.env d ⟨3, 132, none⟩ (.inBlock 1 :: .code (.region 22 R3_22 false) :: .inLoop L3_1 :: .inBlock 0 :: td) s2 H Q := by
      intro s2 acc2 ha p1 p2
      refine G.inBlock (G.run v3_22 ?_)
      have e70 : s2 70 = nI i := by rw [p1 70 (by omega)]; exact h70
      simp [e70, n_add (E := Tryz.env) 3 true i 1 (by omega)]
      refine G.inLoop (ih (i + 1) _ acc2 (by omega) ?_ ?_ ?_ ?_ ?_ ?_ fun s' r1 r2 => hQ s' (fun q hq => ?_) ?_)
      · rw [ha]; cases aloneN A i A[i] 0 A <;> simp <;> omega
      · simp [p1, hs0]
      · simp [p1, h68]
      · simp [p1, h69]
      · simp
      · simp [p2]
      · rw [r1 q hq]
        simp only [setS_eq]
        rw [if_neg (by omega), if_neg (by omega)]
        exact p1 q (by omega)
      · rw [r2, hd, arcsN, ha, Nat.add_assoc]
    cases hal : aloneN A i A[i] 0 A with
    | true =>
      refine G.cond (t := true) (by simp [hal]) (G.run v3_21 ?_)
      have e11 : s1 11 = nI acc := by rw [e 11 (by omega)]; exact h11
      simp [e11, e13, n_add (E := Tryz.env) 3 false acc A[i] (by omega)]
      refine key _ (acc + A[i]) (by rw [hal]; rfl) (fun q hq => ?_) (by simp)
      simp only [setS_eq]
      have : ∀ n, n = 11 ∨ 71 ≤ n → q ≠ n := fun n hn => by omega
      simp [this, e q (by omega)]
    | false =>
      refine G.cond (t := false) (by simp [hal]) (G.skip (key _ acc (by rw [hal]; rfl) (fun q hq => ?_) ?_))
      · simp only [setS_eq]; rw [if_neg (by omega)]; exact e q (by omega)
      · simp [e 11 (by omega), h11]

/-- the rest of TopRounds -/
abbrev C3 : Code := (.seq (.region 4 R3_4 false) (.seq (.region 5 R3_5 false) (.seq (.region 6 R3_6 false) (.seq (.seq (.region 7 R3_7 false) (.cond (.tmp 67) (.seq (.region 8 R3_8 false) .ret) .skip)) (.seq (.region 9 R3_9 false) (.seq (.seq (.region 10 R3_10 false) (.block 0 (.loop L3_1))) (.seq (.region 23 R3_23 false) (.seq (.seq (.region 24 R3_24 false) (.cond (.tmp 120) (.seq (.region 25 R3_25 false) .ret) .skip)) (.seq (.region 26 R3_26 false) (.seq (.region 27 R3_27 false) .ret))))))))))

/-- what the lists are to bring -/
structure Fit (A B : List Nat) (N n : Nat) (out : List (List (List Nat))) : Prop where
  ab : laidF (ringsFrom 0 A) (ringsFrom 0 B) N = some (resL' (nwinds B A))
  ba : laidF (ringsFrom 0 B) (ringsFrom 0 A) N = some (resL' (nwinds A B))
  gA : GoodBody IsName (ringsFrom 0 A)
  gB : GoodBody IsName (ringsFrom 0 B)
  lA : A.length ≤ 3
  lB : B.length ≤ 3
  nA : ∀ n, n ∈ A → n ≠ 0 ∧ n ≤ 5
  nB : ∀ n, n ∈ B → n ≠ 0 ∧ n ≤ 5
  pos : 0 < (ringsFrom 0 A).length
  go : minGo N n (ringsFrom 0 A) 0 = some out
  gO : GoodBody IsName out
  len : out.length = arcsN A 0 A
  oa : laidF out (ringsFrom 0 A) N = some .yes
  ao : laidF (ringsFrom 0 A) out N = some .yes

theorem res_yes (w : Bool) : decide (resL' w = .yes) = w := by cases w <;> rfl
theorem res_many (w : Bool) : resL' w ≠ .many := by cases w <;> decide
theorem neb_self (w c : Bool) : binA Tryz.env 4 c .neq (.bool w) (.bool w) = some (.bool false) := by cases w <;> cases c <;> rfl
theorem IntSl.kept {H H' : Hp} {x : AV} {l : List Nat} (h : IntSl H x l) (k : Kept H H') (hb : Blk (fun b => b < H.next) x) : IntSl H' x l := by
  obtain ⟨b, cap, op, c, o, rfl, h1, h2⟩ := h
  exact ⟨b, cap, op, c, o, rfl, (k.get b hb).trans h1, h2⟩

theorem top_ok {d N n : Nat} {A B : List Nat} {out : List (List (List Nat))} {x y : AV} {s : Store} {H : Hp} (f : Fit A B N n out) (hx : IntSl H x A) (hy : IntSl H y B) (hxb : Blk (fun b => b < H.next) x) (hyb : Blk (fun b => b < H.next) y) (s0 : s 0 = x) (s1 : s 1 = y) :
    G Tryz.env (d + 9) ⟨3, 132, none⟩ [.code C3] s H fun v H' => v = .bool true ∧ Kept H H' := by
  refine G.seq (G.run v3_4 ?_)
  simp [s0, s1]
  have ks : Kept H H.skip := (Kept.refl H).skipR
  refine (ringed_ok (d := d + 6) f.nA f.lA (hx.kept ks hxb) (hxb.mono fun b hb => by rw [Hp.skip_next]; omega)).use ?_
  rintro v H1 ⟨xr, er, rfl, k1, slr, tmr⟩
  have k1' : Kept H H1 := k1.skip
  have n1 := k1'.le
  simp [s0, s1]
  have ks1 : Kept H H1.skip := k1'.skipR
  have ksk1 : Kept H1 H1.skip := (Kept.refl H1).skipR
  refine (ringed_ok (d := d + 6) f.nB f.lB (hy.kept ks1 hyb) (hyb.mono fun b hb => by rw [Hp.skip_next]; omega)).use ?_
  rintro v H2 ⟨xs, es, rfl, k2, sls, tms⟩
  have k2' : Kept H1 H2 := k2.skip
  have n2 := k2'.le
  simp [tz30]
  have rv : ∀ {H : Hp} {x : AV} {es : List AV}, LitSl H x es → (sized (ruleV x) 3 && scalars (ruleV x).cells) = true := by
    intro H x es h
    have h1 : scalars (ruleV x).cells = true := h.plain.1
    rw [h1]; rfl
  rw [store_at (c := [.str [], .nilSlice, .nilSlice]) (c' := ruleC xr) (e := 30) (o := false) ts30 (by rw [Hp.skip_get, Hp.new_get_ne _ _ _ (by rw [Hp.new_next]; omega)]; exact Hp.new_get_eq _ _ _ rfl) (rv slr) (by simp [ruleV])]
  simp
  rw [store_at (c := [.str [], .nilSlice, .nilSlice]) (c' := ruleC xs) (e := 30) (o := false) ts30 (by rw [Hp.skip_get, Hp.put_get_ne _ _ _ _ (by rw [Hp.new_next]; omega), Hp.skip_get]; exact Hp.new_get_eq _ _ _ rfl) (rv sls) (by simp [ruleV])]
  simp
  refine G.genH fun H3 hH3 => ?_
  have n3 : H3.next = H2.next + 4 := by rw [hH3]; rfl
  have k3 : Kept H2 H3 := by rw [hH3]; exact (Kept.new.newR.skipR.put (Nat.le_refl _)).skipR.put (Nat.le_succ _)
  have t5 : H3.get H2.next = some (.cells (ruleC xr) 30 false) := by rw [hH3, Hp.put_get_ne _ _ _ _ (by rw [Hp.new_next]; omega), Hp.skip_get, Hp.put_get_eq]
  have t6 : H3.get (H2.next + 1) = some (.cells (ruleC xs) 30 false) := by rw [hH3]; exact Hp.put_get_eq _ _ _
  clear hH3
  have k30 : Kept H H3 := (k1'.trans k2').trans k3
  have kr3 : Kept H1 H3 := k2'.trans k3
  repeat refine G.seq ?_
  refine G.run v3_5 ?_
  have l5 : loadS Tryz.env 30 H3 (H2.next, 0) = some (ruleV xr) := load_agg tg30 ts30 t5 rfl
  have l6 : loadS Tryz.env 30 H3 (H2.next + 1, 0) = some (ruleV xs) := load_agg tg30 ts30 t6 rfl
  simp [Hp.new_next, l5, l6]
  have sk3 : Kept H3 H3.skip := (Kept.refl H3).skipR
  refine (within_ok (d := d + 5) (H := H3.skip) (mayC (d + 3)) (plainC (d + 2)) ((slr.kept (kr3.trans sk3)).body (tmr.kept (kr3.trans sk3))) ((sls.kept (k3.trans sk3)).body (tms.kept (k3.trans sk3))) f.gA f.gB f.ab).use ?_
  rintro v H4 ⟨rfl, k4⟩
  have k4' : Kept H3 H4 := k4.skip
  have n4 := k4'.le
  simp [res_yes, res_many]
  repeat refine G.seq ?_
  refine G.run v3_6 ?_
  have t5b := (k4'.get _ (by omega)).trans t5
  have t6b := (k4'.get _ (by omega)).trans t6
  have l5b : loadS Tryz.env 30 H4 (H2.next, 0) = some (ruleV xr) := load_agg tg30 ts30 t5b rfl
  have l6b : loadS Tryz.env 30 H4 (H2.next + 1, 0) = some (ruleV xs) := load_agg tg30 ts30 t6b rfl
  simp [l5b, l6b]
  have sk4r : Kept H1 H4.skip := (kr3.trans k4').skipR
  have sk4s : Kept H2 H4.skip := (k3.trans k4').skipR
  refine (same_ok (d := d + 4) (H := H4.skip) (mayC (d + 2)) (plainC (d + 1)) ((slr.kept sk4r).body (tmr.kept sk4r)) ((sls.kept sk4s).body (tms.kept sk4s)) f.gA f.gB f.ab f.ba).use ?_
  rintro v H5 ⟨rfl, k5⟩
  have k5' : Kept H4 H5 := k5.skip
  have n5 := k5'.le
  have he : (if resL' (nwinds B A) = .yes then (if resL' (nwinds A B) = .many then 241 else 0) else (if resL' (nwinds B A) = .many then 241 else 0)) = 0 := by
    cases nwinds B A <;> cases nwinds A B <;> rfl
  simp [res_yes, he]
  have kH5 : Kept H H5 := (k30.trans k4').trans k5'
  have kx5 : IntSl H5.skip x A := (hx.kept kH5 hxb).kept ((Kept.refl H5).skipR) (hxb.mono fun b hb => Nat.lt_of_lt_of_le hb kH5.le)
  have ky5 : IntSl H5.skip y B := (hy.kept kH5 hyb).kept ((Kept.refl H5).skipR) (hyb.mono fun b hb => Nat.lt_of_lt_of_le hb kH5.le)
  have lA := f.lA
  have lB := f.lB
  have nA0 : ∀ m, m ∈ A → m ≠ 0 := fun m hm => (f.nA m hm).1
  have nB0 : ∀ m, m ∈ B → m ≠ 0 := fun m hm => (f.nB m hm).1
  have t5c : H5.get H2.next = some (.cells (ruleC xr) 30 false) := (k5'.get _ (by omega)).trans t5b
  -- the region's end is the same either way
  have rest : ∀ (s2 : Store) (H6 : Hp), Kept H5 H6 → s2 0 = x → s2 5 = .ptr H2.next 0 →
      G Tryz.env (d + 9) ⟨3, 132, none⟩ [.code (.seq (.region 9 R3_9 false) (.seq (.seq (.region 10 R3_10 false) (.block 0 (.loop L3_1))) (.seq (.region 23 R3_23 false) (.seq (.seq (.region 24 R3_24 false) (.cond (.tmp 120) (.seq (.region 25 R3_25 false) .ret) .skip)) (.seq (.region 26 R3_26 false) (.seq (.region 27 R3_27 false) .ret))))))] s2 H6 fun v H' => v = .bool true ∧ Kept H H' := by
    intro s2 H6 k6 e0 e5
    have kH6 : Kept H H6 := kH5.trans k6
    have n6 := k6.le
    have hx6 : IntSl H6 x A := hx.kept kH6 hxb
    refine G.seq (G.run v3_9 ?_)
    simp
    repeat refine G.seq ?_
    refine G.run v3_10 ?_
    simp [e0, hx6.len]
    refine G.block (G.loop ?_)
    refine arcs_out (x := x) (A := A) (by omega) hx6 f.nA A.length 0 _ 0 (by omega) (by omega) (by simp [e0]) (by simp) (by simp) (by simp) (by simp) ?_
    intro s3 q1 q2
    rw [List.drop_zero, Nat.zero_add] at q2
    have e5b : s3 5 = .ptr H2.next 0 := by rw [q1 5 (by omega)]; simp [e5]
    repeat refine G.seq ?_
    refine G.run v3_23 ?_
    have t5d : H6.get H2.next = some (.cells (ruleC xr) 30 false) := (k6.get _ (by omega)).trans t5c
    have l5c : loadS Tryz.env 30 H6 (H2.next, 0) = some (ruleV xr) := load_agg tg30 ts30 t5d rfl
    simp [e5b, l5c]
    have krs : Kept H1 H6.skip := (((kr3.trans k4').trans k5').trans k6).skipR
    refine (minimal_ok (d := d + 1) (H := H6.skip) (slr.kept krs) (tmr.kept krs) f.gA f.pos f.go).use ?_
    rintro v H7 ⟨xm, em, rfl, k7, slm, tmm⟩
    have k7' : Kept H6 H7 := k7.skip
    have n7 := k7'.le
    simp [tz30]
    rw [store_at (c := [.str [], .nilSlice, .nilSlice]) (c' := ruleC xm) (e := 30) (o := false) ts30 (by rw [Hp.skip_get]; exact Hp.new_get_eq _ _ _ rfl) (rv slm) (by simp [ruleV])]
    simp
    refine G.genH fun H8 hH8 => ?_
    have n8 : H8.next = H7.next + 2 := by rw [hH8]; rfl
    have k8 : Kept H7 H8 := by rw [hH8]; exact Kept.new.skipR.put (Nat.le_refl _)
    have t17 : H8.get H7.next = some (.cells (ruleC xm) 30 false) := by rw [hH8]; exact Hp.put_get_eq _ _ _
    clear hH8
    repeat refine G.seq ?_
    refine G.run v3_24 ?_
    have l17 : loadS Tryz.env 28 H8 (H7.next, 2) = some xm := load_one tg28 ts28 t17 rfl
    have lm : lenS Tryz.env 28 xm = some (nI out.length) := by
      have := (slm.body tmm).len
      exact this
    have q11 : ∀ v1 v2 v3 v4 v5 v6, setS (setS (setS (setS (setS (setS s3 108 v1) 109 v2) 107 v3) 110 v4) 111 v5) 17 v6 11 = nI (arcsN A 0 A) := by
      intros; simp [q2]
    simp [tf30_1, l17, lm, q2, f.len]
    refine G.cond (t := false) (by simp) (G.skip ?_)
    repeat refine G.seq ?_
    refine G.run v3_26 ?_
    have l17b : loadS Tryz.env 30 H8 (H7.next, 0) = some (ruleV xm) := load_agg tg30 ts30 t17 rfl
    have l5d : loadS Tryz.env 30 H8 (H2.next, 0) = some (ruleV xr) := load_agg tg30 ts30 ((k8.get _ (by omega)).trans ((k7'.get _ (by omega)).trans t5d)) rfl
    simp [e5b, l17b, l5d]
    have kr8 : Kept H1 H8.skip := (((((kr3.trans k4').trans k5').trans k6).trans k7').trans k8).skipR
    have km8 : Kept H7 H8.skip := k8.skipR
    refine (same_ok (d := d + 4) (H := H8.skip) (mayC (d + 2)) (plainC (d + 1)) ((slm.kept km8).body (tmm.kept km8)) ((slr.kept kr8).body (tmr.kept kr8)) f.gO f.gA f.oa f.ao).use ?_
    rintro v H9 ⟨rfl, k9⟩
    simp
    repeat refine G.seq ?_
    refine G.run v3_27 ?_
    simp
    exact G.ret fn3 (l := [.bool true]) (by rw [res3]; simp [resL, resS]) ⟨rfl, ((kH6.trans k7').trans k8).trans k9.skip⟩
  repeat refine G.seq ?_
  refine G.run v3_7 ?_
  cases hw1 : nwinds B A with
  | true =>
    simp [s0, s1]
    refine (winds_ok (d := d + 8) (H := H5.skip) (by omega) (by omega) ky5 kx5 nA0).use ?_
    rintro v H6 ⟨rfl, rfl⟩
    simp [s0, s1, hw1, neb_self]
    refine (winds_ok (d := d + 8) (H := H5.skip.skip) (by omega) (by omega) ky5 kx5 nA0).use ?_
    rintro v H6 ⟨rfl, rfl⟩
    simp [s0, s1, hw1, neb_self]
    refine (winds_ok (d := d + 8) (H := H5.skip.skip.skip) (by omega) (by omega) kx5 ky5 nB0).use ?_
    rintro v H6 ⟨rfl, rfl⟩
    simp [s0, s1, hw1, neb_self]
    refine G.cond (t := false) (by simp) (G.skip ?_)
    refine rest _ _ (Kept.refl H5).skipR.skipR.skipR (by simp [s0]) (by simp)
  | false =>
    simp [s0, s1]
    refine (winds_ok (d := d + 8) (H := H5.skip) (by omega) (by omega) ky5 kx5 nA0).use ?_
    rintro v H6 ⟨rfl, rfl⟩
    simp [s0, s1, hw1, neb_self]
    refine (winds_ok (d := d + 8) (H := H5.skip.skip) (by omega) (by omega) ky5 kx5 nA0).use ?_
    rintro v H6 ⟨rfl, rfl⟩
    simp [s0, s1, hw1, neb_self]
    refine G.cond (t := false) (by simp) (G.skip ?_)
    refine rest _ _ (Kept.refl H5).skipR.skipR (by simp [s0]) (by simp)
end
end Go.Proofs
