/- place, lengths. TopRounds. Conditions: none. -/
import Derived.Test.YtbclmkfibgmgdaaGreatDoorRdFQ
import Derived.Test.YtbclmkfibgmgdaaGreatDoorRdPE
section
namespace Go.Proofs
open Go Go.Ab
set_option linter.unusedVariables false
set_option linter.unusedSimpArgs false
noncomputable section

theorem rem_neg (m : Nat) (c : Bool) : binA Tryz.env 3 c .rem (.int .i64 (.negSucc m)) (nI 5) = some (if (m + 1) % 5 = 0 then nI 0 else .int .i64 (.negSucc ((m + 1) % 5 - 1))) := by
  show (if IntKind.i64 = IntKind.i64 then some (AV.int .i64 ((Int.negSucc m).tmod 5)) else none) = _
  rw [if_pos rfl]
  have h1 : (Int.negSucc m).tmod 5 = -(((m + 1) % 5 : Nat) : Int) := by
    rw [Int.negSucc_eq, Int.neg_tmod]
    congr 1
  rw [h1]
  by_cases h : (m + 1) % 5 = 0
  · rw [if_pos h, h]; rfl
  · rw [if_neg h]
    obtain ⟨k, hk⟩ : ∃ k, (m + 1) % 5 = k + 1 := ⟨(m + 1) % 5 - 1, by omega⟩
    rw [hk]; rfl
theorem lss_neg (k : Nat) (c : Bool) : binA Tryz.env 3 c .lss (.int .i64 (.negSucc k)) (nI 0) = some (.bool true) := rfl
theorem add_neg {k : Nat} (hk : k < 4) (c : Bool) : binA Tryz.env 3 c .add (.int .i64 (.negSucc k)) (nI 5) = some (nI (4 - k)) := by
  match k, hk with
  | 0, _ => rfl
  | 1, _ => rfl
  | 2, _ => rfl
  | 3, _ => rfl

/-- place -/
theorem place_ok {d : Nat} {n : Int} {H : Hp} : Go.Ab.Fn Tryz.env (d + 1) 14 [nI 5, .int .i64 n] H fun v H' => (∃ r, r < 5 ∧ v = nI r) ∧ H' = H := by
  refine Fn.enter sm14 fk14 fn14 body14 (by rw [nt14]; exact Nat.le_of_ble_eq_true rfl) (by rw [nt14]; decide) ?_
  rw [nt14]
  have a0 : argS [nI 5, .int .i64 n] 0 = nI 5 := rfl
  have a1 : argS [nI 5, .int .i64 n] 1 = .int .i64 n := rfl
  generalize argS [nI 5, .int .i64 n] = s at a0 a1
  repeat refine G.seq ?_
  refine G.run v14_0 ?_
  simp
  repeat refine G.seq ?_
  refine G.run v14_1 ?_
  simp [a0]
  refine G.cond (t := false) (by simp) (G.skip ?_)
  repeat refine G.seq ?_
  refine G.run v14_3 ?_
  have fin : ∀ (s2 : Store) (r : Nat), r < 5 → s2 1 = nI r → G Tryz.env d ⟨14, 16, none⟩ [.code (.seq (.region 6 R14_6 false) .ret)] s2 H fun v H' => (∃ r, r < 5 ∧ v = nI r) ∧ H' = H := by
    intro s2 r hr h1
    refine G.seq (G.run v14_6 ?_)
    simp [h1]
    exact G.ret fn14 (l := [nI r]) (by rw [res14]; simp [resL, resS]) ⟨⟨r, hr, rfl⟩, rfl⟩
  cases n with
  | ofNat m =>
    have e : (AV.int .i64 (.ofNat m)) = nI m := rfl
    rw [e] at a1
    simp [a0, a1, n_mod (E := Tryz.env) 3 false m 5 (by omega)]
    repeat refine G.seq ?_
    refine G.run v14_4 ?_
    simp
    refine G.cond (t := false) (by simp) (G.skip ?_)
    exact fin _ (m % 5) (Nat.mod_lt _ (by omega)) (by simp)
  | negSucc m =>
    by_cases h : (m + 1) % 5 = 0
    · simp [a0, a1, rem_neg, h]
      repeat refine G.seq ?_
      refine G.run v14_4 ?_
      simp
      refine G.cond (t := false) (by simp) (G.skip ?_)
      exact fin _ 0 (by omega) (by simp)
    · simp [a0, a1, rem_neg, h]
      repeat refine G.seq ?_
      refine G.run v14_4 ?_
      simp [lss_neg]
      refine G.cond (t := true) (by simp) ?_
      refine G.run v14_5 ?_
      simp [a0, add_neg (show (m + 1) % 5 - 1 < 4 by omega)]
      exact fin _ (4 - ((m + 1) % 5 - 1)) (by omega) (by simp)

/-- a slice of numbers that is read only -/
def RoSl (H : Hp) (x : AV) (l : List Int) : Prop := ((x = .nilSlice ∨ x = .empty) ∧ l = []) ∨ ∃ b cap c, x = .slice b 0 l.length cap 0 ∧ H.get b = some (.ro c) ∧ ∀ i n, l[i]? = some n → nth c i = some (.int .i64 n)
theorem RoSl.len {H : Hp} {x : AV} {l : List Int} (h : RoSl H x l) : lenS Tryz.env 22 x = some (nI l.length) := by
  rw [lenS_slice x tu22]
  rcases h with ⟨rfl | rfl, rfl⟩ | ⟨b, cap, c, rfl, _⟩ <;> rfl
theorem RoSl.at {H : Hp} {x : AV} {l : List Int} (h : RoSl H x l) {i : Nat} (hi : i < l.length) : ∃ b n c p, x = .slice b 0 n c p ∧ indexAddrA Tryz.env 22 (.slice b 0 n c p) (nI i) = some (.ptr b i) ∧ loadS Tryz.env 3 H (b, i) = some (.int .i64 l[i]) := by
  rcases h with ⟨_, rfl⟩ | ⟨b, cap, c, rfl, h1, h2⟩
  · simp at hi
  · refine ⟨b, _, _, _, rfl, ?_, ?_⟩
    · have := index_slice (E := Tryz.env) (b := b) (off := 0) (c := cap) (p := 0) tu22 ts3 hi
      simpa using this
    · unfold loadS Hp.rcells
      rw [tg3, ts3, h1]
      exact h2 i _ (List.getElem?_eq_getElem hi)
theorem RoSl.kept {H H' : Hp} {x : AV} {l : List Int} (h : RoSl H x l) (k : Kept H H') (hb : Blk (fun b => b < H.next) x) : RoSl H' x l := by
  rcases h with h | ⟨b, cap, c, rfl, h1, h2⟩
  · exact .inl h
  · exact .inr ⟨b, cap, c, rfl, (k.get b hb).trans h1, h2⟩

/-- lengths of rounds -/
structure Lens (A : List Nat) : Prop where
  three : A.length ≤ 3
  each : ∀ n, n ∈ A → 1 ≤ n ∧ n ≤ 5
  sum : A.sum ≤ 10
theorem ints_of {H : Hp} {x : AV} {vs : List AV} {A : List Nat} (h : VSl H 3 x vs) (e : vs = A.map nI) (hA : 0 < A.length) : IntSl H x A := by
  cases h with
  | nil => have := congrArg List.length e; simp at this; omega
  | @mk b cap c _ o h1 h2 h3 h4 h5 h6 =>
    refine ⟨b, cap, 2, c, o, by rw [e]; simp, h1, fun i n hi => ?_⟩
    have hlt : i < vs.length := by rw [e, List.length_map]; exact (List.getElem?_eq_some_iff.1 hi).1
    have h7 : (List.take vs.length c)[i]? = vs[i]? := by rw [h4]
    rw [List.getElem?_take_of_lt hlt] at h7
    rw [nth_eq, h7, e, List.getElem?_map, hi]; rfl

/-- what a call of lengths does -/
def LensPost (H0 : Hp) (v : AV) (H' : Hp) : Prop := ∃ A, 0 < A.length ∧ Lens A ∧ IntSl H' v A ∧ Kept H0 H' ∧ Blk (fun b => H0.next ≤ b ∧ b < H'.next) v

theorem lengths_loop {d : Nat} {x : AV} {l : List Int} {H0 : Hp} (hl : l.length < 9223372036854775808) : ∀ (k i : Nat) (s : Store) (H : Hp) (v : AV) (A : List Nat), i + k = l.length → RoSl H x l → Blk (fun b => b < H0.next) x → Kept H0 H → Lens A → VSl H 3 v (A.map nI) → Blk (fun b => H0.next ≤ b ∧ b < H.next) v →
    s 7 = x → s 8 = nI l.length → s 9 = nI i → s 3 = v → s 4 = nI A.sum →
    G Tryz.env (d + 1) ⟨5, 38, none⟩ [.code L5_0, .inLoop L5_0, .inBlock 0, .code (.seq (.seq (.region 11 R5_11 false) (.cond (.tmp 35) (.region 12 R5_12 false) .skip)) (.seq (.region 13 R5_13 false) .ret))] s H (LensPost H0) := by
  intro k
  induction k with
  | zero =>
    intro i s H v A hik hx hxb hk hA hv hvb h7 h8 h9 h3 h4
    refine G.seq (G.run v5_4 ?_)
    simp [h8, h9]
    refine G.seq (G.cond (t := false) (by simp; omega) ?_)
    refine G.exit rfl ?_
    repeat refine G.seq ?_
    refine G.run v5_11 ?_
    have lv : lenS Tryz.env 22 v = some (nI A.length) := by have := hv.len tu22; simpa using this
    simp [h3, lv]
    by_cases hA0 : A.length = 0
    · refine G.cond (t := true) (by simp; exact List.length_eq_zero_iff.1 hA0) (G.run v5_12 ?_)
      have ble1 : Nat.ble 1 16777216 = true := rfl
      simp [buildSliceS, te22, ts3, tz3, fillES, rep, sliceTo, ble1]
      refine G.seq (G.run v5_13 ?_)
      simp
      refine G.ret fn5 (l := [.slice H.next 0 1 1 0]) (by rw [res5]; simp [resL, resS]) ⟨[1], by simp, ⟨by simp, by simp, by simp⟩, ⟨H.next, 1, 0, _, false, rfl, Hp.new_get_eq _ _ _ rfl, ?_⟩, hk.newR, ?_⟩
      · intro j n hj
        match j with
        | 0 => cases hj; rfl
        | j + 1 => simp at hj
      · show H0.next ≤ H.next ∧ H.next < H.next + 1
        exact ⟨hk.le, Nat.lt_succ_self _⟩
    · refine G.cond (t := false) (by simp; exact fun h => hA0 (by rw [h]; rfl)) (G.skip ?_)
      refine G.seq (G.run v5_13 ?_)
      simp [h3]
      exact G.ret fn5 (l := [v]) (by rw [res5]; simp [resL, resS]) ⟨A, by omega, hA, ints_of hv rfl (by omega), hk, hvb⟩
  | succ k ih =>
    intro i s H v A hik hx hxb hk hA hv hvb h7 h8 h9 h3 h4
    have hi : i < l.length := by omega
    obtain ⟨b, n', c, p, hxe, hix, hld⟩ := hx.at hi
    refine G.seq (G.run v5_4 ?_)
    simp [h8, h9]
    refine G.seq (G.cond (t := true) (by simp; omega) ?_)
    refine G.skip (G.seq (G.block (G.seq (G.run v5_5 ?_))))
    simp [h7, h9, hxe, hix, hld]
    repeat refine G.seq ?_
    refine G.run v5_6 ?_
    simp
    refine (place_ok (d := d) (n := l[i]) (H := H.skip)).use ?_
    rintro w H1 ⟨⟨r, hr, rfl⟩, rfl⟩
    simp [n_add (E := Tryz.env) 3 true 1 r (by omega)]
    repeat refine G.seq ?_
    refine G.run v5_7 ?_
    have lv : lenS Tryz.env 22 v = some (nI A.length) := by have := hv.len tu22; simpa using this
    have hsum := hA.sum
    have ks : Kept H H.skip := (Kept.refl H).skipR
    have next : ∀ (s2 : Store) (H2 : Hp) (v2 : AV) (A2 : List Nat), Kept H0 H2 → Lens A2 → VSl H2 3 v2 (A2.map nI) → Blk (fun b => H0.next ≤ b ∧ b < H2.next) v2 → (∀ q, q = 7 ∨ q = 8 ∨ q = 9 → s2 q = s q) → s2 3 = v2 → s2 4 = nI A2.sum → (∀ b, b < H0.next → H2.get b = H0.get b) →
        G Tryz.env (d + 1) ⟨5, 38, none⟩ [.inBlock 1, .code (.region 10 R5_10 false), .inLoop L5_0, .inBlock 0, .code (.seq (.seq (.region 11 R5_11 false) (.cond (.tmp 35) (.region 12 R5_12 false) .skip)) (.seq (.region 13 R5_13 false) .ret))] s2 H2 (LensPost H0) := by
      intro s2 H2 v2 A2 k2 hA2 hv2 hvb2 q1 q3 q4 old
      have e9 : s2 9 = nI i := by rw [q1 9 (by simp), h9]
      refine G.inBlock (G.run v5_10 ?_)
      simp [e9, n_add (E := Tryz.env) 3 true i 1 (by omega)]
      have hx2 : RoSl H2 x l := by
        rcases hx with h | ⟨b, cap, c, rfl, h1, h2⟩
        · exact .inl h
        · refine .inr ⟨b, cap, c, rfl, ?_, h2⟩
          have hb0 : b < H0.next := hxb
          rw [old b hb0, ← hk.get b hb0]; exact h1
      refine G.inLoop (ih (i + 1) _ H2 v2 A2 (by omega) hx2 hxb k2 hA2 hv2 hvb2 ?_ ?_ ?_ ?_ ?_)
      · simp [q1, h7]
      · simp [q1, h8]
      · simp
      · simp [q3]
      · simp [q4]
    have mv : VSl H.skip 3 v (A.map nI) := hv.move (hvb.mono fun b hb => rfl)
    have skipCase : ∀ s2 : Store, (∀ q, q = 3 ∨ q = 4 ∨ q = 7 ∨ q = 8 ∨ q = 9 → s2 q = s q) → s2 24 = .bool false →
        G Tryz.env (d + 1) ⟨5, 38, none⟩ [.code (.cond (.tmp 24) (.seq (.region 8 R5_8 false) (.region 9 R5_9 false)) .skip), .inBlock 1, .code (.region 10 R5_10 false), .inLoop L5_0, .inBlock 0, .code (.seq (.seq (.region 11 R5_11 false) (.cond (.tmp 35) (.region 12 R5_12 false) .skip)) (.seq (.region 13 R5_13 false) .ret))] s2 H.skip (LensPost H0) := by
      intro s2 q1 q2
      refine G.cond (t := false) (by simp [q2]) (G.skip (next s2 H.skip v A hk.skipR hA mv (hvb.mono fun b hb => ⟨hb.1, Nat.lt_succ_of_lt hb.2⟩) (fun q hq => q1 q (by omega)) (by rw [q1 3 (by simp), h3]) (by rw [q1 4 (by simp), h4]) hk.get))
    by_cases h3l : A.length < 3
    · simp [h3, h4, lv, h3l, n_add (E := Tryz.env) 3 false A.sum (1 + r) (by omega)]
      by_cases h10 : 10 < A.sum + (1 + r)
      · simp [h10]
        refine skipCase _ (fun q hq => ?_) (by simp [h10])
        rcases hq with rfl | rfl | rfl | rfl | rfl <;> simp [h3, h4, h7, hxe]
      · refine G.cond (t := true) (by simp [h10]) ?_
        refine G.seq (G.run v5_8 ?_)
        have ble1 : Nat.ble 1 16777216 = true := rfl
        have hH1 : VSl (H.skip.new (.cells [nI (1 + r)] 3 false)).skip 3 v (A.map nI) := mv.move (hvb.mono fun b hb => Hp.new_get_ne _ _ _ (by rw [Hp.skip_next]; omega))
        obtain ⟨v2, H2, e1, e2, e3, e4, e5⟩ := append_v (E := Tryz.env) (t := 22) (e := 3) (v := nI (1 + r)) (nb := H.skip.next) (id := H.skip.next + 1) (o := false) (op1 := 0) te22 (show Tryz.env.tt.get none 3 = some Tryz.t3 from rfl) rfl rfl (by decide) rfl rfl hH1
          (Hp.new_get_eq _ _ _ rfl) rfl (by simp [nI, AV.beq]) (by simp; omega) (hvb.mono fun b hb => by rw [Hp.skip_next]; omega)
        have n2 : H2.next = H.next + 3 := by rw [e2]; rfl
        simp [h3, buildSliceS, te22, ts3, tz3, fillES, rep, sliceTo, ble1, Hp.new_next, e1]
        refine G.run v5_9 ?_
        simp [h4, n_add (E := Tryz.env) 3 false A.sum (1 + r) (by omega)]
        have old : ∀ b, b < H.next → Blk (fun c => b ≠ c) v → H2.get b = H.get b := fun b hb hn => (e5 b (by rw [Hp.skip_next]; omega) hn).trans (Hp.new_get_ne _ _ _ (by rw [Hp.skip_next]; omega))
        have hle := hk.le
        refine next _ H2 v2 (A ++ [1 + r]) ⟨by omega, fun b hb => (old b (by omega) (hvb.mono fun c hc => by omega)).trans (hk.get b hb)⟩ ⟨by simp; omega, fun n hn => ?_, by simp; omega⟩ (by simpa using e3) ?_ (fun q hq => ?_) (by simp) (by simp) (fun b hb => (old b (by omega) (hvb.mono fun c hc => by omega)).trans (hk.get b hb))
        · rcases List.mem_append.1 hn with hn | hn
          · exact hA.each n hn
          · rw [List.mem_singleton.1 hn]; omega
        · rcases e4 with e4 | ⟨b, o, n, c, p, o', n', c', p', rfl, rfl⟩
          · exact e4.mono fun b hb => by rw [hb, Hp.skip_next]; omega
          · have : H0.next ≤ b ∧ b < H.next := hvb
            show H0.next ≤ b ∧ b < H2.next
            omega
        · rcases hq with rfl | rfl | rfl <;> simp [h7, hxe]
    · simp [h3, lv, h3l]
      refine skipCase _ (fun q hq => ?_) (by simp)
      rcases hq with rfl | rfl | rfl | rfl | rfl <;> simp [h3, h4, h7, hxe]

/-- lengths -/
theorem lengths_ok {d : Nat} {x : AV} {l : List Int} {H : Hp} (hl : l.length < 9223372036854775808) (hx : RoSl H x l) (hxb : Blk (fun b => b < H.next) x) : Go.Ab.Fn Tryz.env (d + 2) 5 [x] H (LensPost H) := by
  refine Fn.enter sm5 fk5 fn5 body5 (by rw [nt5]; exact Nat.le_of_ble_eq_true rfl) (by rw [nt5]; decide) ?_
  rw [nt5]
  have a0 : argS [x] 0 = x := rfl
  generalize argS [x] = s at a0
  repeat refine G.seq ?_
  refine G.run v5_0 ?_
  simp
  repeat refine G.seq ?_
  refine G.run v5_1 ?_
  simp
  repeat refine G.seq ?_
  refine G.run v5_2 ?_
  simp
  repeat refine G.seq ?_
  refine G.run v5_3 ?_
  simp [a0, hx.len]
  refine G.block (G.loop ?_)
  exact lengths_loop (d := d) (H0 := H) hl l.length 0 _ H .nilSlice [] (by omega) hx hxb (Kept.refl H) ⟨by simp, by simp, by simp⟩ .nil trivial (by simp) (by simp) (by simp) (by simp) (by simp)
end
end Go.Proofs
end
section
namespace Go.Proofs
open Go Go.Ab
set_option linter.unusedVariables false
set_option linter.unusedSimpArgs false
noncomputable section

theorem fit {A B : List Nat} (a0 : 0 < A.length) (b0 : 0 < B.length) (lA : Lens A) (lB : Lens B) : ∃ out, Fit A B 60000 40 out := by
  have hA := mem_lists a0 lA.three lA.each lA.sum
  have hB := mem_lists b0 lB.three lB.each lB.sum
  have nA := named hA
  have nB := named hB
  have h := List.all_eq_true.1 rows A hA
  simp only [Bool.and_eq_true] at h
  have hm := h.2
  unfold minOk at hm
  cases ho : minN 40 (ringsN 0 A) 0 with
  | none => rw [ho] at hm; cases hm
  | some o =>
    rw [ho] at hm
    simp only [Bool.and_eq_true] at hm
    obtain ⟨h1, h2, h3⟩ := hm
    obtain ⟨g1, g2⟩ := minN_ok nA.small ho
    rw [← nA.eq] at g1
    refine ⟨o.map nmA, pair_ok hA hB, pair_ok hB hA, nA.good, nB.good, lA.three, lB.three, fun n hn => ?_, fun n hn => ?_, nA.pos, g1, minGo_good nA.good g1, ?_, ?_, ?_⟩
    · have := lA.each n hn; omega
    · have := lB.each n hn; omega
    · rw [List.length_map]; exact Nat.eq_of_beq_eq_true h1
    · rw [nA.eq]; exact gLaid_ok g2 nA.small (isB_ok h2)
    · rw [nA.eq]; exact gLaid_ok nA.small g2 (isB_ok h3)

/-- TOPROUNDS, AT THE MACHINE'S LEVEL. -/
theorem rounds_ok {d : Nat} {x y : AV} {l m : List Int} {H : Hp} (hl : l.length < 9223372036854775808) (hm : m.length < 9223372036854775808) (hx : RoSl H x l) (hy : RoSl H y m) (hxb : Blk (fun b => b < H.next) x) (hyb : Blk (fun b => b < H.next) y) :
    Go.Ab.Fn Tryz.env (d + 10) 3 [x, y] H fun v _ => v = .bool true := by
  refine Fn.enter sm3 fk3 fn3 body3 (by rw [nt3]; exact Nat.le_of_ble_eq_true rfl) (by rw [nt3]; decide) ?_
  rw [nt3]
  have a0 : argS [x, y] 0 = x := rfl
  have a1 : argS [x, y] 1 = y := rfl
  generalize argS [x, y] = s at a0 a1
  repeat refine G.seq ?_
  refine G.run v3_0 ?_
  simp
  repeat refine G.seq ?_
  refine G.run v3_1 ?_
  simp
  refine Fn.told (S := told4) (v := .bool true) rfl (fun h => rfl) ?_
  show wpPut 132 (some 21) (vv (.bool true)) _ _
  simp
  refine G.cond (t := false) (by simp) (G.skip ?_)
  repeat refine G.seq ?_
  refine G.run v3_3 ?_
  simp [a0, a1]
  have k0 : Kept H H.skip.skip := ((Kept.refl H).skipR).skipR
  refine (lengths_ok (d := d + 7) (H := H.skip.skip) hl (hx.kept k0 hxb) (hxb.mono fun b hb => Nat.lt_of_lt_of_le hb k0.le)).use ?_
  rintro v H1 ⟨A, a0', lA, iA, k1, bA⟩
  simp [a0, a1]
  have k1' : Kept H H1 := k0.trans k1
  have k2 : Kept H H1.skip := k1'.skipR
  refine (lengths_ok (d := d + 7) (H := H1.skip) hm (hy.kept k2 hyb) (hyb.mono fun b hb => Nat.lt_of_lt_of_le hb k2.le)).use ?_
  rintro w H2 ⟨B, b0', lB, iB, k3, bB⟩
  simp
  obtain ⟨out, f⟩ := fit a0' b0' lA lB
  have k3' : Kept H1 H2 := k3.skip
  refine (top_ok (d := d) f (iA.kept k3' (bA.mono fun b hb => hb.2)) iB (bA.mono fun b hb => Nat.lt_of_lt_of_le hb.2 k3'.le) (bB.mono fun b hb => hb.2) (by simp) (by simp)).mono fun v H' h => h.1
end
end Go.Proofs
end
