/- Within and Same. mayTerm, mayAtom, mayLiteral, MayRule. Plain. winds. Conditions: none. -/
import Derived.Test.YtbclmkfibgmgdaaGreatDoorRdFC
section
namespace Go.Proofs
open Go Go.Ab
set_option linter.unusedVariables false
set_option linter.unusedSimpArgs false
noncomputable section

theorem BodySl.mono {H : Hp} {B0 B1 : Nat} {pred : List Nat} {x : AV} {l : List (List (List Nat))} (h : BodySl H B0 pred x l) (hle : B0 ≤ B1) : BodySl H B1 pred x l := by
  refine ⟨?_⟩
  rcases h.sl with h | ⟨b, cap, op, c, o, h1, h2, h3, h4, h5⟩
  · exact .inl h
  · refine .inr ⟨b, cap, op, c, o, h1, by omega, h3, h4, fun i t ht => ?_⟩
    obtain ⟨a, q1, q2, q3, q4⟩ := h5 i t ht
    exact ⟨a, q1, q2, q3, q4.mono fun b hb => by omega⟩

/-- Within -/
theorem within_ok {d : Nat} {GN : List Nat → Prop} {rb sb : AV} {R S : List (List (List Nat))} {H : Hp} {n : Nat} {r : LRes} (hMay : MayC GN (d + 2)) (hPlain : PlainC GN (d + 2)) (hR : BodySl H H.next [101] rb R) (hS : BodySl H H.next [101] sb S) (gR : GoodBody GN R) (gS : GoodBody GN S)
    (hgo : laidF R S n = some r) : Go.Ab.Fn Tryz.env (d + 4) 7 [ruleV rb, ruleV sb] H fun v H' => v = .tup [.bool (decide (r = .yes)), nI (if r = .many then 241 else 0)] ∧ Kept H H' := by
  refine Fn.enter sm7 fk7 fn7 body7 (by rw [nt7]; exact Nat.le_of_ble_eq_true rfl) (by rw [nt7]; decide) ?_
  rw [nt7]
  have a0 : argS [ruleV rb, ruleV sb] 0 = ruleV rb := rfl
  have a1 : argS [ruleV rb, ruleV sb] 1 = ruleV sb := rfl
  generalize argS [ruleV rb, ruleV sb] = s at a0 a1
  repeat refine G.seq ?_
  refine G.run v7_0 ?_
  simp [a0, a1, ruleV]
  refine G.genH fun H1 hH1 => ?_
  have n1 : H1.next = H.next + 2 := by rw [hH1]; rfl
  have g1 : ∀ b, b < H.next → H1.get b = H.get b := by
    intro b hb; rw [hH1, Hp.new_get_ne _ _ _ (by rw [Hp.new_next]; omega), Hp.new_get_ne _ _ _ (by omega)]
  have t2 : H1.get H.next = some (.cells [.str [112], .nilSlice, rb] 30 false) := by
    rw [hH1, Hp.new_get_ne _ _ _ (by rw [Hp.new_next]; omega), Hp.new_get_eq _ _ _ rfl]
  have t3 : H1.get (H.next + 1) = some (.cells [.str [112], .nilSlice, sb] 30 false) := by
    rw [hH1]; exact Hp.new_get_eq _ _ _ rfl
  clear hH1
  repeat refine G.seq ?_
  refine G.run v7_1 ?_
  have l2 : loadS Tryz.env 30 H1 (H.next, 0) = some (ruleV rb) := load_agg tg30 ts30 t2 rfl
  have l3 : loadS Tryz.env 30 H1 (H.next + 1, 0) = some (ruleV sb) := load_agg tg30 ts30 t3 rfl
  simp [l2, l3, Hp.new_next]
  have R1 : BodySl H1.skip H1.skip.next [101] rb R := (hR.move (H' := H1.skip) g1).mono (by rw [Hp.skip_next]; omega)
  have S1 : BodySl H1.skip H1.skip.next [101] sb S := (hS.move (H' := H1.skip) g1).mono (by rw [Hp.skip_next]; omega)
  refine (laid_ok (d := d) (H := H1.skip) hMay hPlain R1 S1 gR gS hgo).use ?_
  rintro v H2 ⟨b1, b2, a, rfl⟩
  rw [Hp.skip_next] at b1 b2
  simp
  repeat refine G.seq ?_
  refine G.run v7_2 ?_
  simp
  exact G.ret fn7 (l := [.bool (decide (r = .yes)), nI (if r = .many then 241 else 0)]) (by rw [res7]; simp [resL, resS]) ⟨rfl, by omega, fun b hb => (b2 b (by omega)).trans (g1 b hb)⟩

def errnoOf (r : LRes) : Nat := if r = .many then 241 else 0
/-- Same -/
theorem same_ok {d : Nat} {GN : List Nat → Prop} {rb sb : AV} {R S : List (List (List Nat))} {H : Hp} {n : Nat} {r1 r2 : LRes} (hMay : MayC GN (d + 2)) (hPlain : PlainC GN (d + 2)) (hR : BodySl H H.next [101] rb R) (hS : BodySl H H.next [101] sb S) (gR : GoodBody GN R) (gS : GoodBody GN S)
    (hgo : laidF R S n = some r1) (hgo2 : laidF S R n = some r2) : Go.Ab.Fn Tryz.env (d + 5) 8 [ruleV rb, ruleV sb] H fun v H' => v = .tup [.bool (decide (r1 = .yes) && decide (r2 = .yes)), nI (if r1 = .yes then (if r2 = .many then 241 else 0) else (if r1 = .many then 241 else 0))] ∧ Kept H H' := by
  refine Fn.enter sm8 fk8 fn8 body8 (by rw [nt8]; exact Nat.le_of_ble_eq_true rfl) (by rw [nt8]; decide) ?_
  rw [nt8]
  have a0 : argS [ruleV rb, ruleV sb] 0 = ruleV rb := rfl
  have a1 : argS [ruleV rb, ruleV sb] 1 = ruleV sb := rfl
  generalize argS [ruleV rb, ruleV sb] = s at a0 a1
  repeat refine G.seq ?_
  refine G.run v8_0 ?_
  simp [a0, a1, ruleV]
  refine G.genH fun H1 hH1 => ?_
  have n1 : H1.next = H.next + 2 := by rw [hH1]; rfl
  have g1 : ∀ b, b < H.next → H1.get b = H.get b := by
    intro b hb; rw [hH1, Hp.new_get_ne _ _ _ (by rw [Hp.new_next]; omega), Hp.new_get_ne _ _ _ (by omega)]
  have t2 : H1.get H.next = some (.cells [.str [112], .nilSlice, rb] 30 false) := by
    rw [hH1, Hp.new_get_ne _ _ _ (by rw [Hp.new_next]; omega), Hp.new_get_eq _ _ _ rfl]
  have t3 : H1.get (H.next + 1) = some (.cells [.str [112], .nilSlice, sb] 30 false) := by
    rw [hH1]; exact Hp.new_get_eq _ _ _ rfl
  clear hH1
  repeat refine G.seq ?_
  refine G.run v8_1 ?_
  have l2 : loadS Tryz.env 30 H1 (H.next, 0) = some (ruleV rb) := load_agg tg30 ts30 t2 rfl
  have l3 : loadS Tryz.env 30 H1 (H.next + 1, 0) = some (ruleV sb) := load_agg tg30 ts30 t3 rfl
  simp [l2, l3, Hp.new_next]
  have R1 : BodySl H1.skip H1.skip.next [101] rb R := (hR.move (H' := H1.skip) g1).mono (by rw [Hp.skip_next]; omega)
  have S1 : BodySl H1.skip H1.skip.next [101] sb S := (hS.move (H' := H1.skip) g1).mono (by rw [Hp.skip_next]; omega)
  refine (within_ok (d := d) (H := H1.skip) hMay hPlain R1 S1 gR gS hgo).use ?_
  rintro v H2 ⟨rfl, b1, b2⟩
  rw [Hp.skip_next] at b1 b2
  simp
  repeat refine G.seq ?_
  refine G.run v8_2 ?_
  simp
  by_cases hy : r1 = .yes
  · refine G.cond (t := false) (by simp [hy]) (G.skip ?_)
    repeat refine G.seq ?_
    refine G.run v8_4 ?_
    have l4 : loadS Tryz.env 30 H2 (H.next, 0) = some (ruleV rb) := load_agg tg30 ts30 ((b2 _ (by omega)).trans t2) rfl
    have l5 : loadS Tryz.env 30 H2 (H.next + 1, 0) = some (ruleV sb) := load_agg tg30 ts30 ((b2 _ (by omega)).trans t3) rfl
    simp [l4, l5, n1]
    have g2 : ∀ b, b < H.next → H2.get b = H.get b := fun b hb => (b2 b (by omega)).trans (g1 b hb)
    have R2 : BodySl H2.skip H2.skip.next [101] rb R := (hR.move (H' := H2.skip) g2).mono (by rw [Hp.skip_next]; omega)
    have S2 : BodySl H2.skip H2.skip.next [101] sb S := (hS.move (H' := H2.skip) g2).mono (by rw [Hp.skip_next]; omega)
    refine (within_ok (d := d) (H := H2.skip) hMay hPlain S2 R2 gS gR hgo2).use ?_
    rintro v H3 ⟨rfl, c1, c2⟩
    rw [Hp.skip_next] at c1 c2
    simp
    exact G.ret fn8 (l := [.bool (decide (r2 = .yes)), nI (if r2 = .many then 241 else 0)]) (by rw [res8]; simp [resL, resS]) ⟨by simp [hy, oneOrTup], by omega, fun b hb => (c2 b (by omega)).trans (g2 b hb)⟩
  · refine G.cond (t := true) (by simp [hy]) ?_
    repeat refine G.seq ?_
    refine G.run v8_3 ?_
    simp
    exact G.ret fn8 (l := [.bool false, nI (if r1 = .many then 241 else 0)]) (by rw [res8]; simp [resL, resS]) ⟨by simp [hy, oneOrTup], by omega, fun b hb => (b2 b (by omega)).trans (g1 b hb)⟩
end
end Go.Proofs
end
section
namespace Go.Proofs
open Go Go.Ab
set_option linter.unusedVariables false
set_option linter.unusedSimpArgs false
noncomputable section

theorem Kept.refl (H : Hp) : Kept H H := ⟨Nat.le_refl _, fun _ _ => rfl⟩
theorem Kept.trans {H H1 H2 : Hp} (a : Kept H H1) (b : Kept H1 H2) : Kept H H2 := ⟨Nat.le_trans a.le b.le, fun c hc => (b.get c (Nat.lt_of_lt_of_le hc a.le)).trans (a.get c hc)⟩
theorem Kept.skip {H H' : Hp} (k : Kept H.skip H') : Kept H H' := ⟨Nat.le_trans (Nat.le_succ _) k.le, fun c hc => k.get c (Nat.lt_succ_of_lt hc)⟩
theorem Kept.new {H : Hp} {o : AObj} : Kept H (H.new o) := ⟨Nat.le_succ _, fun c hc => Hp.new_get_ne _ _ _ (Nat.ne_of_lt hc)⟩
/-- a block made, skipped on, and written -/
theorem Kept.put {H H1 : Hp} (k : Kept H H1) {b : Nat} {o : AObj} (hb : H.next ≤ b) : Kept H (H1.put b o) := ⟨k.le, fun c hc => (Hp.put_get_ne _ _ _ _ (by omega)).trans (k.get c hc)⟩
theorem Kept.skipR {H H' : Hp} (k : Kept H H') : Kept H H'.skip := ⟨Nat.le_trans k.le (Nat.le_succ _), k.get⟩
theorem Kept.newR {H H' : Hp} (k : Kept H H') {o : AObj} : Kept H (H'.new o) := ⟨Nat.le_trans k.le (Nat.le_succ _), fun c hc => (Hp.new_get_ne _ _ _ (by have := k.le; omega)).trans (k.get c hc)⟩

abbrev IsName (x : List Nat) : Prop := x ∈ nameL

theorem word_var {d : Nat} {x : List Nat} {H : Hp} {Q : AV → Hp → Prop} (hx : IsName x) (q : Q (vv (nI 0)) H) : Go.Ab.Fn Tryz.env d 46 [.str x, nI 2] H Q :=
  Fn.told (S := told46) (v := nI 0) rfl (fun h => if_pos (.inr ⟨rfl, hx⟩)) q
theorem word_pred {d : Nat} {x : List Nat} {H : Hp} {Q : AV → Hp → Prop} (hx : x = [112] ∨ x = [101]) (q : Q (vv (nI 0)) H) : Go.Ab.Fn Tryz.env d 46 [.str x, nI 1] H Q :=
  Fn.told (S := told46) (v := nI 0) rfl (fun h => if_pos (.inl ⟨rfl, hx⟩)) q
theorem name_ne {x : List Nat} (hx : IsName x) : x ≠ [95] := by
  intro e; subst e; simp [IsName, nameL, nameOf] at hx

/-- mayTerm -/
theorem mayTerm_ok {d : Nat} {x : List Nat} {H : Hp} (hx : IsName x) : Go.Ab.Fn Tryz.env (d + 1) 47 [.agg [nI 1, .str x]] H fun v H' => v = nI 0 ∧ Kept H H' := by
  refine Fn.enter sm47 fk47 fn47 body47 (by rw [nt47]; exact Nat.le_of_ble_eq_true rfl) (by rw [nt47]; decide) ?_
  rw [nt47]
  have a0 : argS [.agg [nI 1, .str x]] 0 = .agg [nI 1, .str x] := rfl
  generalize argS [.agg [nI 1, .str x]] = s at a0
  repeat refine G.seq ?_
  refine G.run v47_0 ?_
  simp [a0]
  refine G.genH fun H1 hH1 => ?_
  have n1 : H1.next = H.next + 1 := by rw [hH1]; rfl
  have k1 : Kept H H1 := by rw [hH1]; exact .new
  have t1 : H1.get H.next = some (.cells [nI 1, .str x] 51 false) := by rw [hH1]; exact Hp.new_get_eq _ _ _ rfl
  clear hH1
  repeat refine G.seq ?_
  refine G.run v47_1 ?_
  have l0 : loadS Tryz.env 3 H1 (H.next, 0) = some (nI 1) := load_one tg3 ts3 t1 rfl
  have l1 : loadS Tryz.env 9 H1 (H.next, 1) = some (.str x) := load_one tg9 ts9 t1 rfl
  simp [tf51_0, l0]
  refine G.block ?_
  repeat refine G.seq ?_
  refine G.run v47_2 ?_
  simp
  refine G.cond (t := false) (by simp) ?_
  repeat refine G.seq ?_
  refine G.run v47_4 ?_
  simp
  refine G.cond (t := false) (by simp) ?_
  refine G.run v47_5 ?_
  simp
  refine G.cond (t := false) (by simp) ?_
  repeat refine G.seq ?_
  refine G.run v47_8 ?_
  simp
  refine G.cond (t := true) (by simp) (G.skip ?_)
  refine G.cond (t := true) (by simp) ?_
  repeat refine G.seq ?_
  refine G.run v47_12 ?_
  have hne := name_ne hx
  simp [tf51_1, l1]
  refine G.cond (t := true) (by simp [hne]) ?_
  repeat refine G.seq ?_
  refine G.run v47_13 ?_
  simp [tf51_1, l1]
  refine word_var hx ?_
  simp
  exact G.ret fn47 (l := [nI 0]) (by rw [res47]; simp [resL, resS]) ⟨rfl, k1.skipR⟩

theorem mayAtom_loop {d : Nat} {a : AV} {t : List (List Nat)} {H0 : Hp} (hn : ∀ x, x ∈ t → IsName x) (hl : t.length < 1000) : ∀ (k i : Nat) (s : Store) (H : Hp), i + k = t.length → TmSl H a t → Blk (fun b => b < H.next) a → Kept H0 H →
    s 20 = a → s 21 = nI t.length → s 22 = nI i →
    G Tryz.env (d + 1) ⟨27, 42, none⟩ [.code L27_0, .inLoop L27_0, .inBlock 0, .code (.seq (.region 17 R27_17 false) .ret)] s H fun v H' => v = nI 0 ∧ Kept H0 H' := by
  intro k
  induction k with
  | zero =>
    intro i s H hik hx hb hk h20 h21 h22
    refine G.seq (G.run v27_7 ?_)
    simp [h21, h22]
    refine G.seq (G.cond (t := false) (by simp; omega) ?_)
    refine G.exit rfl (G.seq (G.run v27_17 ?_))
    simp
    exact G.ret fn27 (l := [nI 0]) (by rw [res27]; simp [resL, resS]) ⟨rfl, hk⟩
  | succ k ih =>
    intro i s H hik hx hb hk h20 h21 h22
    have hi : i < t.length := by omega
    have hlx : ∃ bx ox nx cx qx, a = .slice bx ox nx cx qx ∧ i < nx ∧ loadS Tryz.env 51 H (bx, ox + i * 2) = some (.agg [nI 1, .str t[i]]) := by
      cases hx with
      | nil => simp at hi
      | mk h1 h2 => exact ⟨_, _, _, _, _, rfl, hi, load_agg tg51 ts51 h1 (by simpa using h2 i t[i] (List.getElem?_eq_getElem hi))⟩
    obtain ⟨bx, ox, nx, cx, qx, hax, hinx, hldx⟩ := hlx
    refine G.seq (G.run v27_7 ?_)
    simp [h21, h22]
    refine G.seq (G.cond (t := true) (by simp; omega) ?_)
    refine G.skip (G.seq (G.block (G.seq (G.run v27_8 ?_))))
    simp [h20, h22, hax, index_slice tu25 ts51 hinx, hldx, tz51]
    rw [store_at (c := [nI 0, .str []]) (c' := [nI 1, .str t[i]]) (e := 51) (o := false) ts51 (by simp [Hp.skip_get, Hp.new_get_eq]) (by simp) (by simp)]
    simp
    refine G.genH fun H1 hH1 => ?_
    have n1 : H1.next = H.next + 2 := by rw [hH1]; rfl
    have k1 : Kept H H1 := by rw [hH1]; exact Kept.new.skipR.put (Nat.le_refl _)
    have t1 : H1.get H.next = some (.cells [nI 1, .str t[i]] 51 false) := by rw [hH1, Hp.put_get_eq]
    clear hH1
    repeat refine G.seq ?_
    refine G.run v27_9 ?_
    have l0 : loadS Tryz.env 3 H1 (H.next, 0) = some (nI 1) := load_one tg3 ts3 t1 rfl
    simp [tf51_0, l0]
    refine G.cond (t := false) (by simp) (G.skip ?_)
    repeat refine G.seq ?_
    refine G.run v27_13 ?_
    have l1 : loadS Tryz.env 51 H1 (H.next, 0) = some (.agg [nI 1, .str t[i]]) := load_agg tg51 ts51 t1 rfl
    simp [l1]
    refine (mayTerm_ok (d := d) (H := H1.skip) (hn t[i] (List.getElem_mem hi))).use ?_
    rintro v H2 ⟨rfl, k2⟩
    simp
    repeat refine G.seq ?_
    refine G.run v27_14 ?_
    simp
    refine G.cond (t := false) (by simp) (G.skip (G.inBlock ?_))
    refine G.run v27_16 ?_
    simp [h22, n_add (E := Tryz.env) 3 true i 1 (by omega)]
    refine G.inLoop ?_
    have k3 : Kept H H2 := k1.trans k2.skip
    refine ih (i + 1) _ H2 (by omega) (hx.move (hb.mono fun b hb => k3.get b hb)) (hb.mono fun b hb => Nat.lt_of_lt_of_le hb k3.le) (hk.trans k3) ?_ ?_ ?_
    · simp [h20, hax]
    · simp [h21]
    · simp

/-- mayAtom -/
theorem mayAtom_ok {d : Nat} {pred : List Nat} {a : AV} {t : List (List Nat)} {hd : Bool} {H : Hp} (hp : pred = [112] ∨ pred = [101]) (hn : ∀ x, x ∈ t → IsName x) (hl : t.length ≤ 64) (hx : TmSl H a t) (hb : Blk (fun b => b < H.next) a) :
    Go.Ab.Fn Tryz.env (d + 2) 27 [.agg [.str pred, a], .bool hd] H fun v H' => v = nI 0 ∧ Kept H H' := by
  refine Fn.enter sm27 fk27 fn27 body27 (by rw [nt27]; exact Nat.le_of_ble_eq_true rfl) (by rw [nt27]; decide) ?_
  rw [nt27]
  have a0 : argS [.agg [.str pred, a], .bool hd] 0 = .agg [.str pred, a] := rfl
  generalize argS [.agg [.str pred, a], .bool hd] = s at a0
  repeat refine G.seq ?_
  refine G.run v27_0 ?_
  simp [a0]
  refine G.genH fun H1 hH1 => ?_
  have n1 : H1.next = H.next + 1 := by rw [hH1]; rfl
  have k1 : Kept H H1 := by rw [hH1]; exact .new
  have t1 : H1.get H.next = some (.cells [.str pred, a] 27 false) := by rw [hH1]; exact Hp.new_get_eq _ _ _ rfl
  clear hH1
  repeat refine G.seq ?_
  refine G.run v27_1 ?_
  have l0 : loadS Tryz.env 9 H1 (H.next, 0) = some (.str pred) := load_one tg9 ts9 t1 rfl
  simp [tf27_0, l0]
  refine word_pred hp ?_
  simp
  repeat refine G.seq ?_
  refine G.run v27_2 ?_
  simp
  refine G.cond (t := false) (by simp) (G.skip ?_)
  repeat refine G.seq ?_
  refine G.run v27_4 ?_
  have l1 : loadS Tryz.env 25 H1.skip (H.next, 1) = some a := load_one tg25 ts25 t1 rfl
  have x1 : lenS Tryz.env 25 a = some (nI t.length) := hx.len tu25
  simp [tf27_1, l1, x1]
  refine G.cond (t := false) (by simp; omega) (G.skip ?_)
  repeat refine G.seq ?_
  refine G.run v27_6 ?_
  simp [tf27_1, l1, x1]
  refine G.block (G.loop ?_)
  have k2 : Kept H H1.skip := k1.skipR
  exact mayAtom_loop (d := d) (H0 := H) hn (by omega) t.length 0 _ H1.skip (by omega) (hx.move (hb.mono fun b hb => k2.get b hb)) (hb.mono fun b hb => Nat.lt_of_lt_of_le hb k2.le) k2 (by simp) (by simp) (by simp)

theorem zero51 (c : Bool) : binA Tryz.env 51 c .eql (.agg [nI 0, .str []]) (.agg [nI 0, .str []]) = some (.bool true) := by
  cases c <;> rfl

/-- a literal's cells -/
abbrev litC (pred : List Nat) (a : AV) : List AV := [nI 1, .str pred, a, nI 0, nI 0, .str [], nI 0, .str []]
theorem _root_.Go.Ab.TmSl.lit {H : Hp} {a : AV} {t : List (List Nat)} (h : TmSl H a t) : (sized (.agg (litC [101] a)) 8 && scalars (AV.agg (litC [101] a)).cells) = true := by cases h <;> rfl
theorem _root_.Go.Ab.TmSl.over {H : Hp} {a : AV} {t : List (List Nat)} (h : TmSl H a t) : splice (AV.agg (litC [101] a)).cells 0 [nI 0, .str [], .nilSlice, nI 0, nI 0, .str [], nI 0, .str []] = some (litC [101] a) := by cases h <;> rfl
/-- mayLiteral -/
theorem mayLiteral_ok {d : Nat} {a : AV} {t : List (List Nat)} {H : Hp} (hn : ∀ x, x ∈ t → IsName x) (hl : t.length ≤ 64) (hx : TmSl H a t) (hb : Blk (fun b => b < H.next) a) :
    Go.Ab.Fn Tryz.env (d + 3) 28 [.agg (litC [101] a)] H fun v H' => v = nI 0 ∧ Kept H H' := by
  refine Fn.enter sm28 fk28 fn28 body28 (by rw [nt28]; exact Nat.le_of_ble_eq_true rfl) (by rw [nt28]; decide) ?_
  rw [nt28]
  have a0 : argS [.agg (litC [101] a)] 0 = .agg (litC [101] a) := rfl
  generalize argS [.agg (litC [101] a)] = s at a0
  repeat refine G.seq ?_
  refine G.run v28_0 ?_
  simp [a0]
  refine G.genH fun H1 hH1 => ?_
  have n1 : H1.next = H.next + 1 := by rw [hH1]; rfl
  have k1 : Kept H H1 := by rw [hH1]; exact .new
  have t1 : H1.get H.next = some (.cells (litC [101] a) 55 false) := by rw [hH1]; exact Hp.new_get_eq _ _ _ rfl
  clear hH1
  repeat refine G.seq ?_
  refine G.run v28_1 ?_
  have l1 : loadS Tryz.env 9 H1 (H.next, 1) = some (.str [101]) := load_one tg9 ts9 t1 rfl
  simp [tf55_1, tf27_0, l1]
  repeat refine G.seq ?_
  refine G.run v28_2 ?_
  have l3 : loadS Tryz.env 3 H1 (H.next, 3) = some (nI 0) := load_one tg3 ts3 t1 rfl
  have l4 : loadS Tryz.env 51 H1 (H.next, 4) = some (.agg [nI 0, .str []]) := load_agg tg51 ts51 t1 rfl
  have l6 : loadS Tryz.env 51 H1 (H.next, 6) = some (.agg [nI 0, .str []]) := load_agg tg51 ts51 t1 rfl
  simp [tf55_2, tf55_3, tf55_4, l3, l4, l6, buildS, tz51, tu51, tk51, fillSS, zero51]
  refine G.seq (G.block ?_)
  repeat refine G.seq ?_
  refine G.run v28_3 ?_
  have l0 : loadS Tryz.env 3 H1 (H.next, 0) = some (nI 1) := load_one tg3 ts3 t1 rfl
  simp [tf55_0, l0]
  refine G.cond (t := true) (by simp) ?_
  repeat refine G.seq ?_
  refine G.run v28_4 ?_
  have l7 : loadS Tryz.env 27 H1 (H.next, 1) = some (.agg [.str [101], a]) := load_agg tg27 ts27 t1 rfl
  simp [tf55_1, l7]
  have k2 : Kept H H1.skip := k1.skipR
  refine (mayAtom_ok (d := d) (H := H1.skip) (hd := false) (.inr rfl) hn hl (hx.move (hb.mono fun b hb => k2.get b hb)) (hb.mono fun b hb => Nat.lt_of_lt_of_le hb k2.le)).use ?_
  rintro v H2 ⟨rfl, k3⟩
  simp
  exact G.ret fn28 (l := [nI 0]) (by rw [res28]; simp [resL, resS]) ⟨rfl, k2.trans k3⟩

/-- a literal of a body -/
theorem BodySl.at {H : Hp} {B0 : Nat} {pred : List Nat} {b : AV} {l : List (List (List Nat))} (h : BodySl H B0 pred b l) {i : Nat} (hi : i < l.length) :
    ∃ bx nx cx qx a, b = .slice bx 0 nx cx qx ∧ i < nx ∧ loadS Tryz.env 55 H (bx, i * 8) = some (.agg (litC pred a)) ∧ TmSl H a l[i] ∧ Blk (fun b => b < B0) a ∧ bx < B0 := by
  rcases h.sl with ⟨rfl, rfl⟩ | ⟨bx, cap, op, c, o, rfl, h2, h3, h4, h5⟩
  · simp at hi
  · obtain ⟨a, q1, q2, q3, q4⟩ := h5 i l[i] (List.getElem?_eq_getElem hi)
    exact ⟨bx, _, _, _, a, rfl, hi, load_agg tg55 ts55 h3 q1, q3, q4, h2⟩
theorem BodySl.len {H : Hp} {B0 : Nat} {pred : List Nat} {b : AV} {l : List (List (List Nat))} (h : BodySl H B0 pred b l) : lenS Tryz.env 28 b = some (nI l.length) := by
  rw [lenS_slice b tu28]
  rcases h.sl with ⟨rfl, rfl⟩ | ⟨b, cap, op, c, o, rfl, _⟩ <;> rfl

theorem mayRule_loop {d B0 : Nat} {b : AV} {l : List (List (List Nat))} {H0 : Hp} (hg : GoodBody IsName l) : ∀ (k i : Nat) (s : Store) (H : Hp), i + k = l.length → BodySl H B0 [101] b l → B0 ≤ H.next → Kept H0 H →
    s 18 = b → s 19 = nI l.length → s 20 = nI i →
    G Tryz.env (d + 3) ⟨18, 30, none⟩ [.code L18_0, .inLoop L18_0, .inBlock 0, .code (.seq (.region 13 R18_13 false) .ret)] s H fun v H' => v = nI 0 ∧ Kept H0 H' := by
  intro k
  induction k with
  | zero =>
    intro i s H hik hx hb hk h18 h19 h20
    refine G.seq (G.run v18_7 ?_)
    simp [h19, h20]
    refine G.seq (G.cond (t := false) (by simp; omega) ?_)
    refine G.exit rfl (G.seq (G.run v18_13 ?_))
    simp
    exact G.ret fn18 (l := [nI 0]) (by rw [res18]; simp [resL, resS]) ⟨rfl, hk⟩
  | succ k ih =>
    intro i s H hik hx hb hk h18 h19 h20
    have hi : i < l.length := by omega
    obtain ⟨bx, nx, cx, qx, a, hbx, hinx, hldx, hta, hab, hbl⟩ := hx.at hi
    have ix : indexAddrA Tryz.env 28 (.slice bx 0 nx cx qx) (nI i) = some (.ptr bx (i * 8)) := by
      have := index_slice (E := Tryz.env) (b := bx) (off := 0) (c := cx) (p := qx) tu28 ts55 hinx
      simpa using this
    refine G.seq (G.run v18_7 ?_)
    simp [h19, h20]
    refine G.seq (G.cond (t := true) (by simp; omega) ?_)
    refine G.skip (G.seq (G.block (G.seq (G.run v18_8 ?_))))
    simp [h18, h20, hbx, ix, hldx, tz55]
    rw [store_at (c := [nI 0, .str [], .nilSlice, nI 0, nI 0, .str [], nI 0, .str []]) (c' := litC [101] a) (e := 55) (o := false) ts55 (by simp [Hp.skip_get, Hp.new_get_eq]) hta.lit hta.over]
    simp
    refine G.genH fun H1 hH1 => ?_
    have n1 : H1.next = H.next + 2 := by rw [hH1]; rfl
    have k1 : Kept H H1 := by rw [hH1]; exact Kept.new.skipR.put (Nat.le_refl _)
    have t1 : H1.get H.next = some (.cells (litC [101] a) 55 false) := by rw [hH1, Hp.put_get_eq]
    clear hH1
    repeat refine G.seq ?_
    refine G.run v18_9 ?_
    have l1 : loadS Tryz.env 55 H1 (H.next, 0) = some (.agg (litC [101] a)) := load_agg tg55 ts55 t1 rfl
    simp [l1]
    have k2 : Kept H H1.skip := k1.skipR
    have gi := hg.2 l[i] (List.getElem_mem hi)
    refine (mayLiteral_ok (d := d) (H := H1.skip) gi.2 (by rw [gi.1]; omega) (hta.move (hab.mono fun b hb => k2.get b (by omega))) (hab.mono fun b hb => by have := k2.le; omega)).use ?_
    rintro v H2 ⟨rfl, k3⟩
    simp
    repeat refine G.seq ?_
    refine G.run v18_10 ?_
    simp
    refine G.cond (t := false) (by simp) (G.skip (G.inBlock ?_))
    refine G.run v18_12 ?_
    simp [h20, n_add (E := Tryz.env) 3 true i 1 (by have := hg.1; omega)]
    refine G.inLoop ?_
    have k4 : Kept H H2 := k2.trans k3
    refine ih (i + 1) _ H2 (by omega) (hx.move fun b hb => k4.get b (by omega)) (Nat.le_trans hb k4.le) (hk.trans k4) ?_ ?_ ?_
    · simp [h18, hbx]
    · simp [h19]
    · simp

/-- MayRule -/
theorem mayC (d : Nat) : MayC IsName (d + 4) := by
  intro H B0 b l hx hg hB
  refine Fn.enter sm18 fk18 fn18 body18 (by rw [nt18]; exact Nat.le_of_ble_eq_true rfl) (by rw [nt18]; decide) ?_
  rw [nt18]
  have a0 : argS [ruleV b] 0 = ruleV b := rfl
  generalize argS [ruleV b] = s at a0
  repeat refine G.seq ?_
  refine G.run v18_0 ?_
  simp [a0, ruleV]
  refine G.genH fun H1 hH1 => ?_
  have n1 : H1.next = H.next + 1 := by rw [hH1]; rfl
  have k1 : Kept H H1 := by rw [hH1]; exact .new
  have t1 : H1.get H.next = some (.cells [.str [112], .nilSlice, b] 30 false) := by rw [hH1]; exact Hp.new_get_eq _ _ _ rfl
  clear hH1
  repeat refine G.seq ?_
  refine G.run v18_1 ?_
  have l0 : loadS Tryz.env 27 H1 (H.next, 0) = some (.agg [.str [112], .nilSlice]) := load_agg tg27 ts27 t1 rfl
  simp [tf30_0, l0]
  refine (mayAtom_ok (d := d + 1) (H := H1.skip) (hd := true) (t := []) (.inl rfl) (by simp) (by simp) .nil trivial).use ?_
  rintro v H2 ⟨rfl, k2⟩
  have k3 : Kept H1 H2 := k2.skip
  have k4 : Kept H H2 := k1.trans k3
  simp
  repeat refine G.seq ?_
  refine G.run v18_2 ?_
  simp
  refine G.cond (t := false) (by simp) (G.skip ?_)
  repeat refine G.seq ?_
  refine G.run v18_4 ?_
  have l1 : loadS Tryz.env 28 H2 (H.next, 2) = some b := load_one tg28 ts28 ((k3.get _ (by omega)).trans t1) rfl
  simp [tf30_1, l1, hx.len]
  refine G.cond (t := false) (by simp; exact hg.1) (G.skip ?_)
  repeat refine G.seq ?_
  refine G.run v18_6 ?_
  simp [tf30_1, l1, hx.len]
  refine G.block (G.loop ?_)
  exact mayRule_loop (d := d) (B0 := B0) (H0 := H) hg l.length 0 _ H2 (by omega) (hx.move fun b hb => k4.get b (by omega)) (Nat.le_trans hB k4.le) k4 (by simp) (by simp) (by simp)
end
end Go.Proofs
end
section
namespace Go.Proofs
open Go Go.Ab
set_option linter.unusedVariables false
set_option linter.unusedSimpArgs false
noncomputable section

def upM (k : List Nat) (v : AV) : MP → MP
  | [] => []
  | (a, u) :: r => if k = a then (a, v) :: r else (a, u) :: upM k v r
theorem update_es (k : List Nat) (v : AV) : ∀ m, updateE (.str k) v (toEs m) = toEs (upM k v m)
  | [] => rfl
  | (a, u) :: r => by
    show (bif natsEq k a then (.str a, v) :: toEs r else (.str a, u) :: updateE (.str k) v (toEs r)) = _
    rw [natsEq_decide]
    by_cases h : k = a
    · simp [h, upM, toEs]
    · simp [h, upM, update_es k v r, toEs]
theorem update_str {E : Env} {t kt vt M : Nat} {k : List Nat} {v : AV} {m : MP} {mods : Nat} {H : Hp} (hm : E.mapT t = some (kt, vt)) (hk : keyOk E kt (.str k) = true) (hg : H.get M = some (.map (toEs m) mods)) :
    ∃ H' m' mods', updateS E t (.map M) (.str k) v H = some H' ∧ H'.next = H.next ∧ (∀ b, b ≠ M → H'.get b = H.get b) ∧ H'.get M = some (.map (toEs m') mods') := by
  unfold updateS
  rw [hm]
  simp only [hk, cond_true]
  unfold updateMS Hp.mapAt
  rw [hg]
  simp only [Option.bind_some, mapOf_map, lookup_es]
  cases hl : lk k m with
  | none => exact ⟨_, m ++ [(k, v)], _, rfl, rfl, fun b hb => Hp.put_get_ne _ _ _ _ hb, by rw [Hp.put_get_eq, toEs_append]; rfl⟩
  | some w => exact ⟨_, upM k v m, _, rfl, rfl, fun b hb => Hp.put_get_ne _ _ _ _ hb, by rw [Hp.put_get_eq, update_es]⟩

@[simp] theorem cells_nilMap : AV.nilMap.cells = [.nilMap] := rfl
@[simp] theorem opS_neg1 (s : Store) : opS s (.const (.int .i64 (-1))) = .int .i64 (-1) := rfl
theorem geq_neg (c : Bool) : binA Tryz.env 3 c .geq (.int .i64 (-1)) (nI 0) = some (.bool false) := by cases c <;> rfl

/-- IndexFunc over nothing -/
theorem index_none {d : Nat} {f : AV} {H : Hp} : Go.Ab.Fn Tryz.env (d + 1) 48 [.nilSlice, f] H fun v H' => v = .int .i64 (-1) ∧ Kept H H' := by
  refine Fn.enter sm48 fk48 fn48 body48 (by rw [nt48]; exact Nat.le_of_ble_eq_true rfl) (by rw [nt48]; decide) ?_
  rw [nt48]
  have a0 : argS [.nilSlice, f] 0 = .nilSlice := rfl
  generalize argS [.nilSlice, f] = s at a0
  repeat refine G.seq ?_
  refine G.run v48_0 ?_
  simp
  repeat refine G.seq ?_
  refine G.run v48_1 ?_
  have l0 : lenS Tryz.env 25 .nilSlice = some (nI 0) := rfl
  simp [a0, l0]
  refine G.block (G.loop ?_)
  refine G.seq (G.run v48_2 ?_)
  simp
  refine G.seq (G.cond (t := false) (by simp) (G.exit rfl ?_))
  refine G.seq (G.run v48_7 ?_)
  simp
  exact G.ret fn48 (l := [.int .i64 (-1)]) (by rw [res48]; simp [resL, resS]) ⟨rfl, .refl _⟩
/-- ContainsFunc over nothing -/
theorem contains_none {d : Nat} {f : AV} {H : Hp} : Go.Ab.Fn Tryz.env (d + 2) 29 [.nilSlice, f] H fun v H' => v = .bool false ∧ Kept H H' := by
  refine Fn.enter sm29 fk29 fn29 body29 (by rw [nt29]; exact Nat.le_of_ble_eq_true rfl) (by rw [nt29]; decide) ?_
  rw [nt29]
  have a0 : argS [.nilSlice, f] 0 = .nilSlice := rfl
  have a1 : argS [.nilSlice, f] 1 = f := rfl
  generalize argS [.nilSlice, f] = s at a0 a1
  repeat refine G.seq ?_
  refine G.run v29_0 ?_
  simp
  repeat refine G.seq ?_
  refine G.run v29_1 ?_
  simp [a0, a1]
  refine (index_none (d := d) (H := H.skip)).use ?_
  rintro v H1 ⟨rfl, k1⟩
  simp [geq_neg]
  exact G.ret fn29 (l := [.bool false]) (by rw [res29]; simp [resL, resS]) ⟨rfl, k1.skip⟩

theorem plain_terms {d M pc N0 : Nat} {a : AV} {t : List (List Nat)} {td : List Item} {Q : AV → Hp → Prop} (hl : t.length < 1000) (hab : Blk (fun b => b < N0) a) (hM : N0 ≤ M) : ∀ (k i : Nat) (s : Store) (H : Hp) (m : MP) (mods : Nat), i + k = t.length → TmSl H a t →
    H.get M = some (.map (toEs m) mods) → H.get pc = some (.cells [.map M] 78 false) → M < H.next → pc < H.next → N0 ≤ H.next → s 3 = .ptr pc 0 → s 24 = a → s 25 = nI t.length → s 26 = nI i →
    (∀ s' H' m' mods', H.next ≤ H'.next → (∀ c, c < H.next → c ≠ M → H'.get c = H.get c) → H'.get M = some (.map (toEs m') mods') → (∀ k, k ≠ 7 → k < 26 → s' k = s k) → G Tryz.env d ⟨19, 44, none⟩ td s' H' Q) →
    G Tryz.env d ⟨19, 44, none⟩ (.code L19_0 :: .inLoop L19_0 :: .inBlock 2 :: td) s H Q := by
  intro k
  induction k with
  | zero =>
    intro i s H m mods hik hx hm hpc hMn hpn hN h3 h24 h25 h26 hQ
    refine G.seq (G.run v19_10 ?_)
    simp [h25, h26]
    refine G.seq (G.cond (t := false) (by simp; omega) ?_)
    refine G.exit rfl (hQ _ H m mods (Nat.le_refl _) (fun _ _ _ => rfl) hm fun k h7 hk => ?_)
    simp only [setS_eq]
    rw [if_neg (by omega)]
  | succ k ih =>
    intro i s H m mods hik hx hm hpc hMn hpn hN h3 h24 h25 h26 hQ
    have hi : i < t.length := by omega
    have hlx : ∃ bx ox nx cx qx, a = .slice bx ox nx cx qx ∧ i < nx ∧ loadS Tryz.env 51 H (bx, ox + i * 2) = some (.agg [nI 1, .str t[i]]) := by
      cases hx with
      | nil => simp at hi
      | mk h1 h2 => exact ⟨_, _, _, _, _, rfl, hi, load_agg tg51 ts51 h1 (by simpa using h2 i t[i] (List.getElem?_eq_getElem hi))⟩
    obtain ⟨bx, ox, nx, cx, qx, hax, hinx, hldx⟩ := hlx
    refine G.seq (G.run v19_10 ?_)
    simp [h25, h26]
    refine G.seq (G.cond (t := true) (by simp; omega) ?_)
    refine G.skip (G.seq (G.block (G.seq (G.run v19_11 ?_))))
    simp [h24, h26, hax, index_slice tu25 ts51 hinx, hldx, tz51]
    rw [store_at (c := [nI 0, .str []]) (c' := [nI 1, .str t[i]]) (e := 51) (o := false) ts51 (by simp [Hp.skip_get, Hp.new_get_eq]) (by simp) (by simp)]
    simp
    refine G.genH fun H1 hH1 => ?_
    have n1 : H1.next = H.next + 2 := by rw [hH1]; rfl
    have k1 : Kept H H1 := by rw [hH1]; exact Kept.new.skipR.put (Nat.le_refl _)
    have t1 : H1.get H.next = some (.cells [nI 1, .str t[i]] 51 false) := by rw [hH1, Hp.put_get_eq]
    clear hH1
    repeat refine G.seq ?_
    refine G.run v19_12 ?_
    have l0 : loadS Tryz.env 3 H1 (H.next, 0) = some (nI 1) := load_one tg3 ts3 t1 rfl
    simp [tf51_0, l0]
    refine G.cond (t := true) (by simp) ?_
    repeat refine G.seq ?_
    refine G.run v19_13 ?_
    have l1 : loadS Tryz.env 9 H1 (H.next, 1) = some (.str t[i]) := load_one tg9 ts9 t1 rfl
    have l2 : loadS Tryz.env 78 H1 (pc, 0) = some (.map M) := load_one tg78 ts78 ((k1.get _ hpn).trans hpc) rfl
    obtain ⟨H2, m2, mods2, e1, e2, e3, e4⟩ := update_str (H := H1.skip) (v := .bool true) tm78 (k := t[i]) (show keyOk Tryz.env 9 _ = true from rfl) ((k1.get _ hMn).trans hm)
    simp [h3, tf51_1, l1, l2, e1]
    refine G.inBlock (G.run v19_14 ?_)
    simp [h26, n_add (E := Tryz.env) 3 true i 1 (by omega)]
    refine G.inLoop ?_
    have n2 : H2.next = H.next + 3 := by rw [e2, Hp.skip_next, n1]
    have g2 : ∀ c, c < H.next → c ≠ M → H2.get c = H.get c := fun c hc hcM => (e3 c hcM).trans (k1.get c hc)
    have hpM : pc ≠ M := by intro e; rw [e, hm] at hpc; cases hpc
    refine ih (i + 1) _ H2 m2 mods2 (by omega) (hx.move (hab.mono fun b hb => g2 b (by omega) (by omega))) e4 ((g2 pc hpn hpM).trans hpc) (by omega) (by omega) (by omega) ?_ ?_ ?_ ?_ ?_
    · simp [h3]
    · simp [h24, hax]
    · simp [h25]
    · simp
    · intro s' H' m' mods' q1 q2 q3 q4
      refine hQ s' H' m' mods' (by omega) (fun c hc hcM => (q2 c (by omega) hcM).trans (g2 c hc hcM)) q3 fun k h7 hk => ?_
      rw [q4 k h7 hk]
      simp only [setS_eq]
      have : ∀ n, 26 ≤ n → k ≠ n := fun n hn => by omega
      simp [this, h7]

theorem plain_loop {d M pc bb B0 : Nat} {b : AV} {l : List (List (List Nat))} {H0 : Hp} (hg : GoodBody IsName l) (hM0 : H0.next ≤ M) (hp0 : H0.next ≤ pc) (hb0 : H0.next ≤ bb) (hB0 : B0 ≤ H0.next) : ∀ (k i : Nat) (s : Store) (H : Hp) (m : MP) (mods : Nat), i + k = l.length → BodySl H B0 [101] b l →
    H.get M = some (.map (toEs m) mods) → H.get pc = some (.cells [.map M] 78 false) → H.get bb = some (.cells [.str [112], .nilSlice, b] 30 false) → M < H.next → pc < H.next → bb < H.next → Kept H0 H → s 1 = .ptr bb 0 → s 3 = .ptr pc 0 → s 13 = b → s 14 = nI l.length → s 15 = nI i →
    G Tryz.env (d + 2) ⟨19, 44, none⟩ [.code L19_1, .inLoop L19_1, .inBlock 0, .code (.seq (.region 16 R19_16 false) .ret)] s H fun v H' => v = .bool true ∧ Kept H0 H' := by
  intro k
  induction k with
  | zero =>
    intro i s H m mods hik hx hm hpc hbb hMn hpn hbn hk h1 h3 h13 h14 h15
    refine G.seq (G.run v19_5 ?_)
    simp [h14, h15]
    refine G.seq (G.cond (t := false) (by simp; omega) ?_)
    refine G.exit rfl (G.seq (G.run v19_16 ?_))
    have l1 : loadS Tryz.env 25 H (bb, 1) = some .nilSlice := load_one tg25 ts25 hbb rfl
    simp [h1, h3, tf30_0, tf27_1, l1]
    refine (contains_none (d := d) (H := H.skip)).use ?_
    rintro v H1 ⟨rfl, k1⟩
    simp
    exact G.ret fn19 (l := [.bool true]) (by rw [res19]; simp [resL, resS]) ⟨rfl, hk.trans k1.skip⟩
  | succ k ih =>
    intro i s H m mods hik hx hm hpc hbb hMn hpn hbn hk h1 h3 h13 h14 h15
    have hi : i < l.length := by omega
    have hN := hk.le
    obtain ⟨bx, nx, cx, qx, a, hbx, hinx, hldx, hta, hab, hbl⟩ := hx.at hi
    have gi := hg.2 l[i] (List.getElem_mem hi)
    have ix : indexAddrA Tryz.env 28 (.slice bx 0 nx cx qx) (nI i) = some (.ptr bx (i * 8)) := by
      have := index_slice (E := Tryz.env) (b := bx) (off := 0) (c := cx) (p := qx) tu28 ts55 hinx
      simpa using this
    refine G.seq (G.run v19_5 ?_)
    simp [h14, h15]
    refine G.seq (G.cond (t := true) (by simp; omega) ?_)
    refine G.skip (G.seq (G.block (G.seq (G.run v19_6 ?_))))
    simp [h13, h15, hbx, ix, hldx, tz55]
    rw [store_at (c := [nI 0, .str [], .nilSlice, nI 0, nI 0, .str [], nI 0, .str []]) (c' := litC [101] a) (e := 55) (o := false) ts55 (by simp [Hp.skip_get, Hp.new_get_eq]) hta.lit hta.over]
    simp
    refine G.genH fun H1 hH1 => ?_
    have n1 : H1.next = H.next + 2 := by rw [hH1]; rfl
    have k1 : Kept H H1 := by rw [hH1]; exact Kept.new.skipR.put (Nat.le_refl _)
    have t1 : H1.get H.next = some (.cells (litC [101] a) 55 false) := by rw [hH1, Hp.put_get_eq]
    clear hH1
    repeat refine G.seq ?_
    refine G.run v19_7 ?_
    have l0 : loadS Tryz.env 3 H1 (H.next, 0) = some (nI 1) := load_one tg3 ts3 t1 rfl
    simp [tf55_0, l0]
    refine G.cond (t := false) (by simp) (G.skip ?_)
    repeat refine G.seq ?_
    refine G.run v19_9 ?_
    have l2 : loadS Tryz.env 25 H1 (H.next, 2) = some a := load_one tg25 ts25 t1 rfl
    have x2 : lenS Tryz.env 25 a = some (nI l[i].length) := hta.len tu25
    simp [tf55_1, tf27_1, l2, x2]
    refine G.block (G.loop ?_)
    refine plain_terms (d := d + 2) (M := M) (pc := pc) (N0 := H0.next) (a := a) (t := l[i]) (by rw [gi.1]; omega) (hab.mono fun b hb => by omega) hM0 l[i].length 0 _ H1 m mods (by omega) (hta.move (hab.mono fun b hb => k1.get b (by omega))) ((k1.get _ hMn).trans hm) ((k1.get _ hpn).trans hpc) (by omega) (by omega) (by omega) ?_ ?_ ?_ ?_ ?_
    · simp [h3]
    · simp
    · simp
    · simp
    · intro s' H' m' mods' q1 q2 q3 q4
      refine G.inBlock (G.run v19_15 ?_)
      have s15 : s' 15 = nI i := by rw [q4 15 (by omega) (by omega)]; simp [h15]
      simp [s15, n_add (E := Tryz.env) 3 true i 1 (by have := hg.1; omega)]
      refine G.inLoop ?_
      have hpM : pc ≠ M := by intro e; rw [e, hm] at hpc; cases hpc
      have hbM : bb ≠ M := by intro e; rw [e, hm] at hbb; cases hbb
      have g2 : ∀ c, c < H.next → c ≠ M → H'.get c = H.get c := fun c hc hcM => (q2 c (by omega) hcM).trans (k1.get c hc)
      refine ih (i + 1) _ H' m' mods' (by omega) (hx.move fun c hc => g2 c (by omega) (by omega)) q3 ((g2 pc hpn hpM).trans hpc) ((g2 bb hbn hbM).trans hbb) (by omega) (by omega) (by omega) ⟨by omega, fun c hc => (g2 c (by omega) (by omega)).trans (hk.get c hc)⟩ ?_ ?_ ?_ ?_ ?_
      · simp [q4, h1]
      · simp [q4, h3]
      · simp [q4, h13, hbx]
      · simp [q4, h14]
      · simp

/-- Plain -/
theorem plainC (d : Nat) : PlainC IsName (d + 5) := by
  intro H B0 b l hx hg hB
  refine Fn.enter sm19 fk19 fn19 body19 (by rw [nt19]; exact Nat.le_of_ble_eq_true rfl) (by rw [nt19]; decide) ?_
  rw [nt19]
  have a0 : argS [ruleV b] 0 = ruleV b := rfl
  generalize argS [ruleV b] = s at a0
  repeat refine G.seq ?_
  refine G.run v19_0 ?_
  simp [a0, ruleV]
  refine G.genH fun H1 hH1 => ?_
  have n1 : H1.next = H.next + 1 := by rw [hH1]; rfl
  have k1 : Kept H H1 := by rw [hH1]; exact .new
  have t1 : H1.get H.next = some (.cells [.str [112], .nilSlice, b] 30 false) := by rw [hH1]; exact Hp.new_get_eq _ _ _ rfl
  clear hH1
  repeat refine G.seq ?_
  refine G.run v19_1 ?_
  have l0 : loadS Tryz.env 30 H1 (H.next, 0) = some (ruleV b) := load_agg tg30 ts30 t1 rfl
  simp [l0]
  refine (mayC d H1.skip B0 b l (hx.move fun c hc => k1.get c (by omega)) hg (by rw [Hp.skip_next]; omega)).use ?_
  rintro v H2 ⟨rfl, k2⟩
  have k3 : Kept H1 H2 := k2.skip
  have k4 : Kept H H2 := k1.trans k3
  simp
  refine G.cond (t := false) (by simp) (G.skip ?_)
  repeat refine G.seq ?_
  refine G.run v19_3 ?_
  have mk : (bif ((Tryz.env.under 78).map isMap).getD false then some ((AObj.map [] 0, AV.map) : AObj × (Nat → AV)) else none) = some (.map [] 0, .map) := rfl
  simp [mk, tz78]
  rw [store_at (c := [.nilMap]) (c' := [.map H2.next]) (e := 78) (o := false) ts78 (by simp [Hp.skip_get, Hp.new_get_eq]) (by simp) (by simp)]
  simp
  refine G.genH fun H3 hH3 => ?_
  have n3 : H3.next = H2.next + 3 := by rw [hH3]; rfl
  have k5 : Kept H2 H3 := by rw [hH3]; exact Kept.new.newR.skipR.put (Nat.le_succ _)
  have t3 : H3.get H2.next = some (.map (toEs []) 0) := by rw [hH3, Hp.put_get_ne _ _ _ _ (by rw [Hp.new_next]; omega), Hp.skip_get, Hp.new_get_ne _ _ _ (by rw [Hp.new_next]; omega)]; exact Hp.new_get_eq _ _ _ rfl
  have t4 : H3.get (H2.next + 1) = some (.cells [.map H2.next] 78 false) := by rw [hH3]; exact Hp.put_get_eq _ _ _
  clear hH3
  repeat refine G.seq ?_
  refine G.run v19_4 ?_
  have hle := k3.le
  have t5 : H3.get H.next = some (.cells [.str [112], .nilSlice, b] 30 false) := (k5.get _ (by omega)).trans ((k3.get _ (by omega)).trans t1)
  have l1 : loadS Tryz.env 28 H3 (H.next, 2) = some b := load_one tg28 ts28 t5 rfl
  simp [tf30_1, l1, hx.len]
  refine G.block (G.loop ?_)
  exact plain_loop (d := d + 2) (M := H2.next) (pc := H2.next + 1) (bb := H.next) (B0 := B0) (H0 := H) hg (by omega) (by omega) (Nat.le_refl _) hB l.length 0 _ H3 [] 0 (by omega) (hx.move fun c hc => (k5.get c (by omega)).trans (k4.get c (by omega))) t3 t4 t5 (by omega) (by omega) (by omega) (k4.trans k5)
    (by simp) (by simp [Hp.new_next]) (by simp) (by simp) (by simp)
end
end Go.Proofs
end
section
namespace Go.Proofs
open Go Go.Ab
set_option linter.unusedVariables false
set_option linter.unusedSimpArgs false
noncomputable section

/-- a slice of numbers -/
def IntSl (H : Hp) (x : AV) (l : List Nat) : Prop := ∃ b cap op c o, x = .slice b 0 l.length cap op ∧ H.get b = some (.cells c 3 o) ∧ ∀ i n, l[i]? = some n → nth c i = some (nI n)
theorem IntSl.len {H : Hp} {x : AV} {l : List Nat} (h : IntSl H x l) : lenS Tryz.env 22 x = some (nI l.length) := by
  rw [lenS_slice x tu22]
  obtain ⟨b, cap, op, c, o, rfl, _⟩ := h
  rfl
theorem IntSl.at {H : Hp} {x : AV} {l : List Nat} (h : IntSl H x l) {i : Nat} (hi : i < l.length) : ∃ b n c p, x = .slice b 0 n c p ∧ indexAddrA Tryz.env 22 (.slice b 0 n c p) (nI i) = some (.ptr b i) ∧ loadS Tryz.env 3 H (b, i) = some (nI l[i]) := by
  obtain ⟨b, cap, op, c, o, rfl, h1, h2⟩ := h
  refine ⟨b, _, _, _, rfl, ?_, load_one tg3 ts3 h1 (h2 i _ (List.getElem?_eq_getElem hi))⟩
  have := index_slice (E := Tryz.env) (b := b) (off := 0) (c := cap) (p := op) tu22 ts3 hi
  simpa using this

theorem winds_in {d n : Nat} {y : AV} {ar : List Nat} {td : List Item} {H : Hp} {Q : AV → Hp → Prop} (hl : ar.length < 1000) (hy : IntSl H y ar) (h0 : ∀ m, m ∈ ar → m ≠ 0) : ∀ (k j : Nat) (s : Store) (acc : Bool), j + k = ar.length →
    s 16 = y → s 17 = nI ar.length → s 18 = nI j → s 6 = nI n → s 7 = .bool acc →
    (∀ s', (∀ q, q ≠ 7 → q ≠ 9 → q < 18 → s' q = s q) → s' 7 = .bool (acc || (ar.drop j).any fun m => Nat.beq (n % m) 0) → G Tryz.env d ⟨9, 33, none⟩ td s' H Q) →
    G Tryz.env d ⟨9, 33, none⟩ (.code L9_0 :: .inLoop L9_0 :: .inBlock 2 :: td) s H Q := by
  intro k
  induction k with
  | zero =>
    intro j s acc hjk h16 h17 h18 h6 h7 hQ
    refine G.seq (G.run v9_6 ?_)
    simp [h17, h18]
    refine G.seq (G.cond (t := false) (by simp; omega) ?_)
    refine G.exit rfl (hQ _ (fun q q7 q9 hq => ?_) ?_)
    · simp only [setS_eq]; rw [if_neg (by omega)]
    · rw [List.drop_of_length_le (by omega)]
      simp [h7]
  | succ k ih =>
    intro j s acc hjk h16 h17 h18 h6 h7 hQ
    have hj : j < ar.length := by omega
    obtain ⟨b, n', c, p, hyb, hix, hld⟩ := hy.at hj
    refine G.seq (G.run v9_6 ?_)
    simp [h17, h18]
    refine G.seq (G.cond (t := true) (by simp; omega) ?_)
    refine G.skip (G.seq (G.block (G.seq (G.run v9_7 ?_))))
    simp [h16, h18, hyb, hix, hld]
    refine G.run v9_8 ?_
    have hm := h0 ar[j] (List.getElem_mem hj)
    have hd : ar.drop j = ar[j] :: ar.drop (j + 1) := List.drop_eq_getElem_cons hj
    have key : ∀ s2 : Store, (∀ q, q ≠ 7 → q ≠ 9 → q < 18 → s2 q = s q) → s2 18 = nI j → s2 7 = .bool (acc || Nat.beq (n % ar[j]) 0) →
        G Tryz.env d ⟨9, 33, none⟩ (.inBlock 3 :: .code (.region 9 R9_9 false) :: .inLoop L9_0 :: .inBlock 2 :: td) s2 H Q := by
      intro s2 q1 q2 q3
      refine G.inBlock (G.run v9_9 ?_)
      simp [q2, n_add (E := Tryz.env) 3 true j 1 (by omega)]
      refine G.inLoop (ih (j + 1) _ (acc || Nat.beq (n % ar[j]) 0) (by omega) ?_ ?_ ?_ ?_ ?_ fun s' r1 r2 => hQ s' (fun q q7 q9 hq => ?_) ?_)
      · simp [q1, h16]
      · simp [q1, h17]
      · simp
      · simp [q1, h6]
      · simp [q3]
      · rw [r1 q q7 q9 hq]
        simp only [setS_eq]
        have : ∀ n, 18 ≤ n → q ≠ n := fun n hn => by omega
        simp [this, q1 q q7 q9 hq]
      · rw [r2, hd, List.any_cons, Bool.or_assoc]
    have pres : ∀ q, q ≠ 7 → q ≠ 9 → q < 18 → ∀ n, 18 ≤ n → q ≠ n := fun q _ _ hq n hn => by omega
    cases acc with
    | true =>
      simp [h7]
      refine key _ (fun q q7 q9 hq => ?_) ?_ ?_
      · simp only [setS_eq]
        simp [pres q q7 q9 hq, q7, q9]
      · simp [h18]
      · simp
    | false =>
      simp [h7, h6, n_mod (E := Tryz.env) 3 false n ar[j] hm]
      refine key _ (fun q q7 q9 hq => ?_) ?_ ?_
      · simp only [setS_eq]
        simp [pres q q7 q9 hq, q7, q9]
      · simp [h18]
      · simp [natBeq_decide]

theorem winds_loop {d : Nat} {x y : AV} {l ar : List Nat} {H : Hp} (hll : l.length < 1000) (hl : ar.length < 1000) (hx : IntSl H x l) (hy : IntSl H y ar) (h0 : ∀ m, m ∈ ar → m ≠ 0) : ∀ (k i : Nat) (s : Store), i + k = l.length →
    s 1 = y → s 10 = x → s 11 = nI l.length → s 12 = nI i →
    G Tryz.env d ⟨9, 33, none⟩ [.code L9_1, .inLoop L9_1, .inBlock 0, .code (.seq (.region 13 R9_13 false) .ret)] s H fun v H' => v = .bool (nwinds (l.drop i) ar) ∧ H' = H := by
  intro k
  induction k with
  | zero =>
    intro i s hik h1 h10 h11 h12
    refine G.seq (G.run v9_2 ?_)
    simp [h11, h12]
    refine G.seq (G.cond (t := false) (by simp; omega) ?_)
    refine G.exit rfl (G.seq (G.run v9_13 ?_))
    simp
    refine G.ret fn9 (l := [.bool true]) (by rw [res9]; simp [resL, resS]) ⟨?_, rfl⟩
    rw [List.drop_of_length_le (by omega)]; rfl
  | succ k ih =>
    intro i s hik h1 h10 h11 h12
    have hi : i < l.length := by omega
    obtain ⟨b, n', c, p, hxb, hix, hld⟩ := hx.at hi
    have hd : l.drop i = l[i] :: l.drop (i + 1) := List.drop_eq_getElem_cons hi
    refine G.seq (G.run v9_2 ?_)
    simp [h11, h12]
    refine G.seq (G.cond (t := true) (by simp; omega) ?_)
    refine G.skip (G.seq (G.block (G.seq (G.run v9_3 ?_))))
    simp [h10, h12, hxb, hix, hld]
    repeat refine G.seq ?_
    refine G.run v9_4 ?_
    simp
    repeat refine G.seq ?_
    refine G.run v9_5 ?_
    simp [h1, hy.len]
    refine G.block (G.loop ?_)
    refine winds_in (n := l[i]) hl hy h0 ar.length 0 _ false (by omega) (by simp) (by simp) (by simp) (by simp) (by simp) ?_
    intro s' q1 q2
    repeat refine G.seq ?_
    refine G.run v9_10 ?_
    simp [q2]
    have e1 : s' 1 = y := by rw [q1 1 (by omega) (by omega) (by omega)]; simp [h1]
    have e10 : s' 10 = x := by rw [q1 10 (by omega) (by omega) (by omega)]; simp [h10, hxb]
    have e11 : s' 11 = nI l.length := by rw [q1 11 (by omega) (by omega) (by omega)]; simp [h11]
    have e12 : s' 12 = nI i := by rw [q1 12 (by omega) (by omega) (by omega)]; simp [h12]
    rw [hd]
    unfold nwinds
    cases hany : ar.any (fun m => Nat.beq (l[i] % m) 0) with
    | true =>
      refine G.cond (t := false) (by simp [hany]) (G.skip (G.inBlock ?_))
      refine G.run v9_12 ?_
      simp [e12, n_add (E := Tryz.env) 3 true i 1 (by omega)]
      refine G.inLoop (ih (i + 1) _ (by omega) ?_ ?_ ?_ ?_)
      · simp [e1]
      · simp [e10]
      · simp [e11]
      · simp
    | false =>
      refine G.cond (t := true) (by simp [hany]) ?_
      repeat refine G.seq ?_
      refine G.run v9_11 ?_
      simp
      exact G.ret fn9 (l := [.bool false]) (by rw [res9]; simp [resL, resS]) ⟨rfl, rfl⟩

/-- winds -/
theorem winds_ok {d : Nat} {x y : AV} {l ar : List Nat} {H : Hp} (hll : l.length < 1000) (hl : ar.length < 1000) (hx : IntSl H x l) (hy : IntSl H y ar) (h0 : ∀ m, m ∈ ar → m ≠ 0) :
    Go.Ab.Fn Tryz.env (d + 1) 9 [x, y] H fun v H' => v = .bool (nwinds l ar) ∧ H' = H := by
  refine Fn.enter sm9 fk9 fn9 body9 (by rw [nt9]; exact Nat.le_of_ble_eq_true rfl) (by rw [nt9]; decide) ?_
  rw [nt9]
  have a0 : argS [x, y] 0 = x := rfl
  have a1 : argS [x, y] 1 = y := rfl
  generalize argS [x, y] = s at a0 a1
  repeat refine G.seq ?_
  refine G.run v9_0 ?_
  simp
  repeat refine G.seq ?_
  refine G.run v9_1 ?_
  simp [a0, hx.len]
  refine G.block (G.loop ?_)
  exact winds_loop (d := d) hll hl hx hy h0 l.length 0 _ (by omega) (by simp [a1]) (by simp) (by simp) (by simp)
end
end Go.Proofs
end
