/- Laid. Laid's search. Laid. Conditions: none. -/
import Derived.Test.YtbclmkfibgmgdaaGreatDoorRdSI
import Derived.Test.YtbclmkfibgmgdaaGreatDoorRdSF
section
namespace Go.Proofs
open Go Go.Ab
set_option linter.unusedVariables false
set_option linter.unusedSimpArgs false
noncomputable section

/-- a body: literals that are atoms of variables -/
structure BodySl (H : Hp) (B0 : Nat) (pred : List Nat) (x : AV) (l : List (List (List Nat))) : Prop where
  sl : (x = .nilSlice ∧ l = []) ∨ ∃ b cap op c o, x = .slice b 0 l.length cap op ∧ b < B0 ∧ H.get b = some (.cells c 55 o) ∧ AV.beqL c c = true ∧
    ∀ i t, l[i]? = some t → ∃ a, cut c (i * 8) 8 = some [nI 1, .str pred, a, nI 0, nI 0, .str [], nI 0, .str []] ∧ cut c (i * 8 + 1) 2 = some [.str pred, a] ∧ TmSl H a t ∧ Blk (fun b => b < B0) a

theorem laid_lay {d M B0 i j : Nat} {pred : List Nat} {rb sb : AV} {R S : List (List (List Nat))} {s : Store} {H : Hp} {p : PM (List Nat)} {at_ : AV} {Q : AV → Hp → Prop} {td : List Item} {pr ps : Nat} {rh sh : List AV} (hR : BodySl H B0 pred rb R) (hS : BodySl H B0 pred sb S) (hi : i < S.length) (hj : j < R.length)
    (h10 : s 10 = .map M) (h3 : s 3 = .ptr ps 0) (h2 : s 2 = .ptr pr 0) (h13 : s 13 = at_) (h17 : s 17 = nI j) (hat : lenS Tryz.env 22 at_ = some (nI i)) (hps : H.get ps = some (.cells [.str [112], .nilSlice, sb] 30 false)) (hpr : H.get pr = some (.cells [.str [112], .nilSlice, rb] 30 false))
    (hm : MapAt H M p) (hlen : ∀ (h1 : i < S.length) (h2 : j < R.length), S[i].length = R[j].length ∧ S[i].length < 1000) (hM : M < H.next) (hB : B0 ≤ H.next)
    (hQ : ∀ (f : AV) (H' : Hp) (s' : Store) (r : PM (List Nat) × List (List Nat) × Bool), r = layF p [] S[i] R[j] → H.next + 21 ≤ H'.next → (∀ b, b ≠ M → b < H.next → H'.get b = H.get b) → MapAt H' M r.1 → StrSl H' f r.2.1 → Blk (fun b => H.next + 21 ≤ b ∧ b < H'.next) f →
      (∀ k, k < 18 → s' k = s k) → s' 18 = f → s' 19 = .bool r.2.2 → G Tryz.env (d + 2) ⟨17, 124, none⟩ td s' H' Q) :
    G Tryz.env (d + 2) ⟨17, 124, none⟩ (.code (.region 24 R17_24 true) :: td) s H Q := by
  refine G.drawn rfl v17_24 w17_24 rfl ?_
  obtain ⟨rfl, rfl⟩ | ⟨bs, caps, ops, cs, os, hsx, hsb, hsg, hsr, hsl⟩ := hS.sl
  · simp at hi
  obtain ⟨rfl, rfl⟩ | ⟨br, capr, opr, cr, orr, hrx, hrb, hrg, hrr, hrl⟩ := hR.sl
  · simp at hj
  obtain ⟨as_, q1, q2, q3, q4⟩ := hsl i S[i] (List.getElem?_eq_getElem hi)
  obtain ⟨ar, t1, t2, t3, t4⟩ := hrl j R[j] (List.getElem?_eq_getElem hj)
  have e1 : loadS Tryz.env 28 ⟨H.get, H.next + 21⟩ (ps, 2) = some sb := load_one tg28 ts28 hps rfl
  have e2 : loadS Tryz.env 28 ⟨H.get, H.next + 21⟩ (pr, 2) = some rb := load_one tg28 ts28 hpr rfl
  have e3 : loadS Tryz.env 27 ⟨H.get, H.next + 21⟩ (bs, i * 8 + 1) = some (.agg [.str pred, as_]) := load_agg tg27 ts27 hsg q2
  have e4 : loadS Tryz.env 27 ⟨H.get, H.next + 21⟩ (br, j * 8 + 1) = some (.agg [.str pred, ar]) := load_agg tg27 ts27 hrg t2
  simp [h10, h3, h2, h13, h17, tf30_1, e1, e2, hat, hsx, hrx, index_slice tu28 ts55 hi, index_slice tu28 ts55 hj, tf55_1, e3, e4]
  have p1 : sameO (.cells [.str [112], .nilSlice, .slice bs 0 S.length caps ops] 30 false) (.cells [.str [112], .nilSlice, .slice bs 0 S.length caps ops] 30 false) = true :=
    sameO_cells (beqL_cons (beq_str _) (beqL_cons rfl (beqL_cons (beq_slice ..) rfl)))
  have p2 : sameO (.cells [.str [112], .nilSlice, .slice br 0 R.length capr opr] 30 false) (.cells [.str [112], .nilSlice, .slice br 0 R.length capr opr] 30 false) = true :=
    sameO_cells (beqL_cons (beq_str _) (beqL_cons rfl (beqL_cons (beq_slice ..) rfl)))
  subst hsx hrx
  rw [rdB_some (H := ⟨H.get, H.next + 21⟩) _ hps]
  refine ⟨readOk_first hps p1, ?_⟩
  rw [rdB_some (H := ⟨H.get, H.next + 21⟩) _ hsg]
  refine ⟨readOk_first hsg (sameO_cells hsr), ?_⟩
  rw [rdB_some (H := ⟨H.get, H.next + 21⟩) _ hpr]
  refine ⟨readOk_first hpr p2, ?_⟩
  rw [rdB_some (H := ⟨H.get, H.next + 21⟩) _ hrg]
  refine ⟨readOk_first hrg (sameO_cells hrr), ?_⟩
  have hl := hlen hi hj
  refine (lay_ok (d := d) (H := ⟨H.get, H.next + 21⟩) (p := p) (xs := S[i]) (ys := R[j]) hl.1 hl.2 hm (q3.move (q4.mono fun b hb => rfl)) (t3.move (t4.mono fun b hb => rfl)) (by show M < H.next + 21; omega) (q4.mono fun b hb => by show b < H.next + 21; omega) (t4.mono fun b hb => by show b < H.next + 21; omega)).use ?_
  rintro v H' ⟨l1, l2, l3, f, rfl, l4, l5⟩
  refine ⟨reads_ahead (by simp [bitAt]), ?_⟩
  simp
  refine hQ f H' _ _ rfl l1 (fun b hM hb => l2 b hM (by show b < H.next + 21; omega)) l3 l4 l5 (fun k hk => ?_) (by simp) (by simp)
  simp only [setS_eq]
  have : ∀ n, 18 ≤ n → k ≠ n := fun n hn => by omega
  simp [this]
end
end Go.Proofs
end
section
namespace Go.Proofs
open Go Go.Ab
set_option linter.unusedVariables false
set_option linter.unusedSimpArgs false
noncomputable section

noncomputable abbrev X27 : Code := (.seq (.region 27 R17_27 false) (.seq (.seq (.region 28 R17_28 false) (.cond (.tmp 105) (.seq (.region 29 R17_29 false) .ret) .skip)) (.seq (.region 30 R17_30 false) (.region 31 R17_31 true))))
/-- what is left to do at the inner loop's head -/
noncomputable abbrev T17 (td : List Item) : List Item := .inBlock 2 :: .code (.seq (.region 32 R17_32 false) .ret) :: td
noncomputable abbrev I17 (td : List Item) : List Item := .inLoop L17_1 :: .inBlock 4 :: .code X27 :: .inBlock 3 :: .inLoop L17_2 :: T17 td

theorem layF_len : ∀ (p : PM (List Nat)) (fr xs ys : List (List Nat)), (layF p fr xs ys).2.1.length ≤ fr.length + xs.length
  | p, fr, [], ys => by simp [layF]
  | p, fr, x :: xs, [] => by simp [layF]
  | p, fr, x :: xs, y :: ys => by
    rw [layF]
    split
    · have := layF_len (p ++ [(x, y)]) (fr ++ [x]) xs ys
      simp only [List.length_append, List.length_cons, List.length_nil] at this ⊢; omega
    · split
      · have := layF_len p fr xs ys
        simp only [List.length_cons]; omega
      · simp
theorem BodySl.move {H H' : Hp} {B0 : Nat} {pred : List Nat} {x : AV} {l : List (List (List Nat))} (h : BodySl H B0 pred x l) (g : ∀ b, b < B0 → H'.get b = H.get b) : BodySl H' B0 pred x l := by
  refine ⟨?_⟩
  rcases h.sl with h | ⟨b, cap, op, c, o, h1, h2, h3, h4, h5⟩
  · exact .inl h
  · refine .inr ⟨b, cap, op, c, o, h1, h2, (g b h2).trans h3, h4, fun i t ht => ?_⟩
    obtain ⟨a, q1, q2, q3, q4⟩ := h5 i t ht
    exact ⟨a, q1, q2, q3.move (q4.mono g), q4⟩
theorem StrSl.ne_map {H : Hp} {x : AV} {l : List (List Nat)} {M : Nat} {p : PM (List Nat)} (h : StrSl H x l) (hm : MapAt H M p) : Blk (fun b => b ≠ M) x := by
  obtain ⟨mods, hm⟩ := hm
  cases h with
  | nil => trivial
  | mk h1 => intro e; rw [e, hm] at h1; cases h1
/-- what a call of Laid does -/
structure LaidSpec (B0 : Nat) (H H' : Hp) (r : LRes) (v : AV) : Prop where
  le : H.next ≤ H'.next
  get : ∀ b, b < B0 → H'.get b = H.get b
  val : ∃ a, v = .tup [a, .bool (decide (r = .yes)), nI (if r = .many then 241 else 0)]

structure LaidInv (B0 M pr ps : Nat) (rb sb : AV) (R S : List (List (List Nat))) (st : List (Nat × List (List Nat))) (looks : Nat) (p : PM (List Nat)) (s : Store) (H : Hp) (at_ fr : AV) (frs : List AV) : Prop where
  h2 : s 2 = .ptr pr 0
  h3 : s 3 = .ptr ps 0
  h10 : s 10 = .map M
  h13 : s 13 = at_
  h14 : s 14 = fr
  h15 : s 15 = nI looks
  hat : VSl H 3 at_ (st.reverse.map fun x => nI x.1)
  hfr : VSl H 41 fr frs
  hfrs : FrSl H B0 frs (st.reverse.map (·.2))
  hatb : Blk (fun b => B0 ≤ b ∧ b < H.next) at_
  hfrb : Blk (fun b => B0 ≤ b ∧ b < H.next) fr
  hm : MapAt H M p
  hps : H.get ps = some (.cells [.str [112], .nilSlice, sb] 30 false)
  hpr : H.get pr = some (.cells [.str [112], .nilSlice, rb] 30 false)
  hR : BodySl H B0 [101] rb R
  hS : BodySl H B0 [101] sb S
  hMB : B0 ≤ M
  hM : M < H.next
  hB : B0 ≤ H.next
  hpsB : B0 ≤ ps ∧ ps < H.next
  hprB : B0 ≤ pr ∧ pr < H.next

theorem laid_go {d B0 M pr ps : Nat} {rb sb : AV} {R S : List (List (List Nat))} {td : List Item} (hRl : R.length < 1000) (hSl : S.length < 1000) (hlen : ∀ a b, a ∈ S → b ∈ R → a.length = b.length ∧ a.length < 1000) :
    ∀ (n : Nat) (st : List (Nat × List (List Nat))) (k looks : Nat) (p : PM (List Nat)) (s : Store) (H : Hp) (at_ fr : AV) (frs : List AV) (r : LRes), laidGo R S n st k looks p = some r → LaidInv B0 M pr ps rb sb R S st looks p s H at_ fr frs → s 17 = nI k → st.length < S.length → looks ≤ 65536 → (∀ x ∈ st, x.1 < R.length ∧ x.2.length < 1000) →
      G Tryz.env (d + 2) ⟨17, 124, none⟩ (.code L17_1 :: I17 td) s H (fun v H' => LaidSpec B0 H H' r v) := by
  intro n
  induction n with
  | zero => intro st k looks p s H at_ fr frs r h; cases h
  | succ n ih =>
    intro st k looks p s H at_ fr frs r hgo I h17 hst hlk hk
    have lb : lenS Tryz.env 28 rb = some (nI R.length) := by
      rw [lenS_slice rb tu28]
      rcases I.hR.sl with ⟨rfl, rfl⟩ | ⟨b, cap, op, c, o, rfl, _⟩ <;> rfl
    have l1 : loadS Tryz.env 28 H (pr, 2) = some rb := load_one tg28 ts28 I.hpr rfl
    repeat refine G.seq ?_
    refine G.run v17_19 ?_
    simp [h17, I.h2, tf30_1, l1, lb]
    unfold laidGo at hgo
    by_cases hkR : k < R.length
    · rw [if_pos hkR] at hgo
      refine G.cond (t := true) (by simp [hkR]) (G.skip ?_)
      refine G.seq (G.block ?_)
      repeat refine G.seq ?_
      refine G.run v17_21 ?_
      simp [I.h15, n_add (E := Tryz.env) 3 true looks 1 (by omega)]
      repeat refine G.seq ?_
      refine G.run v17_22 ?_
      simp
      by_cases hmany : looks + 1 > 65536
      · rw [if_pos hmany] at hgo
        cases hgo
        refine G.cond (t := true) (by simp; omega) ?_
        repeat refine G.seq ?_
        refine G.run v17_23 ?_
        simp
        exact G.ret fn17 (l := [.nilSlice, .bool false, nI 241]) (by rw [res17]; simp [resL, resS]) ⟨Nat.le_refl _, fun _ _ => rfl, .nilSlice, rfl⟩
      · rw [if_neg hmany] at hgo
        refine G.cond (t := false) (by simp; omega) (G.skip ?_)
        have hSi : S[st.length]? = some S[st.length] := List.getElem?_eq_getElem hst
        have hRi : R[k]? = some R[k] := List.getElem?_eq_getElem hkR
        simp only [hSi, hRi] at hgo
        have hatl : lenS Tryz.env 22 at_ = some (nI st.length) := by
          have := I.hat.len (E := Tryz.env) tu22
          simpa using this
        refine G.seq ?_
        refine laid_lay (rb := rb) (sb := sb) (B0 := B0) (M := M) (p := p) (at_ := at_) (i := st.length) (j := k) (pr := pr) (ps := ps) (rh := []) (sh := []) I.hR I.hS hst hkR (by simp [I.h10]) (by simp [I.h3]) (by simp [I.h2]) (by simp [I.h13]) (by simp [h17]) hatl I.hps I.hpr I.hm (fun h1 h2 => hlen _ _ (List.getElem_mem h1) (List.getElem_mem h2)) I.hM I.hB ?_
        intro f H1 s1 q hq n1 g1 m1 f1 fb1 sk s18 s19
        rw [← hq] at hgo
        have hq2 : q.2.1.length < 1000 := by
          rw [hq]; have := layF_len p [] S[st.length] R[k]; have h2 := (hlen _ _ (List.getElem_mem hst) (List.getElem_mem hkR)).2; simp at this; omega
        obtain ⟨q1, q2, q3⟩ := q
        replace hq2 : q2.length < 1000 := hq2
        have old1 : ∀ b, b ≠ M → b < H.next → H1.get b = H.get b := g1
        have hnxt : H.next ≤ H1.next := by omega
        repeat refine G.seq ?_
        refine G.run v17_25 ?_
        simp [s19]
        have mv : ∀ {e x vs}, VSl H e x vs → Blk (fun b => B0 ≤ b ∧ b < H.next) x → VSl H1 e x vs := fun h hb => h.move (((h.ne_map I.hm).and hb).mono fun b hb => old1 b (Ne.symm hb.1) hb.2.2)
        have mb : ∀ {x}, Blk (fun b => B0 ≤ b ∧ b < H.next) x → Blk (fun b => B0 ≤ b ∧ b < H1.next) x := fun h => h.mono fun b hb => ⟨hb.1, by omega⟩
        have mvs : FrSl H1 B0 frs (st.reverse.map (·.2)) := I.hfrs.move hnxt fun a l ha hb => by
          exact ((StrSl.ne_map ha I.hm).and hb).mono fun b hb => old1 b hb.1 hb.2.2
        have I1 : LaidInv B0 M pr ps rb sb R S st (looks + 1) q1 s1 H1 at_ fr frs := by
          have oldB : ∀ b, b < B0 → H1.get b = H.get b := fun b hb => old1 b (by have := I.hMB; omega) (by have := I.hB; omega)
          have psM : ps ≠ M := by
            obtain ⟨mods, e⟩ := I.hm
            intro h; have := I.hps; rw [h, e] at this; cases this
          have prM : pr ≠ M := by
            obtain ⟨mods, e⟩ := I.hm
            intro h; have := I.hpr; rw [h, e] at this; cases this
          exact ⟨by rw [sk 2 (by omega)]; simp [I.h2], by rw [sk 3 (by omega)]; simp [I.h3], by rw [sk 10 (by omega)]; simp [I.h10], by rw [sk 13 (by omega)]; simp [I.h13], by rw [sk 14 (by omega)]; simp [I.h14],
            by rw [sk 15 (by omega)]; simp [I.h15], mv I.hat I.hatb, mv I.hfr I.hfrb, mvs, mb I.hatb, mb I.hfrb, m1, (old1 ps psM I.hpsB.2).trans I.hps, (old1 pr prM I.hprB.2).trans I.hpr, I.hR.move oldB, I.hS.move oldB, I.hMB, by have := I.hM; omega, by have := I.hB; omega,
            ⟨I.hpsB.1, by have := I.hpsB.2; omega⟩, ⟨I.hprB.1, by have := I.hprB.2; omega⟩⟩
        cases q3 with
        | false =>
          refine G.cond (t := false) (by simp) (G.skip (G.inBlock ?_))
          refine G.run v17_20 ?_
          have h17' : s1 17 = nI k := by rw [sk 17 (by omega)]; simp [h17]
          simp [h17', n_add (E := Tryz.env) 3 true k 1 (by omega)]
          refine G.inLoop ?_
          refine (ih st (k + 1) (looks + 1) q1 _ H1 at_ fr frs r hgo ?_ (by simp) hst (by omega) hk).mono ?_
          · exact ⟨by simp [I1.h2], by simp [I1.h3], by simp [I1.h10], by simp [I1.h13], by simp [I1.h14], by simp [I1.h15], I1.hat, I1.hfr, I1.hfrs, I1.hatb, I1.hfrb, I1.hm, I1.hps, I1.hpr, I1.hR, I1.hS, I1.hMB, I1.hM, I1.hB, I1.hpsB, I1.hprB⟩
          · rintro v H' ⟨l1, l2, l3⟩
            exact ⟨by omega, fun b hb => (l2 b hb).trans (old1 b (by have := I.hMB; omega) (by have := I.hB; omega)), l3⟩
        | true =>
          simp only [] at hgo
          refine G.cond (t := true) (by simp) ?_
          refine G.seq (G.run v17_26 ?_)
          have h17' : s1 17 = nI k := by rw [sk 17 (by omega)]; simp [h17]
          have hA : VSl (H1.new (.cells [nI k] 3 false)).skip 3 at_ (st.reverse.map fun x => nI x.1) := I1.hat.move (I1.hatb.mono fun b hb => Hp.new_get_ne _ _ _ (by omega))
          obtain ⟨at2, H2, e1, e2, e3, e4, e5⟩ := append_v (E := Tryz.env) (t := 22) (e := 3) (v := nI k) (nb := H1.next) (id := H1.next + 1) (o := false) (op1 := 0) te22 (show Tryz.env.tt.get none 3 = some Tryz.t3 from rfl) rfl rfl (by decide) rfl rfl hA
            (Hp.new_get_eq _ _ _ rfl) rfl (by simp [nI, AV.beq]) (by simp; omega) (I1.hatb.mono fun b hb => by omega)
          have n2 : H2.next = H1.next + 2 := e2
          have old2 : ∀ b, b < H1.next → Blk (fun c => b ≠ c) at_ → H2.get b = H1.get b := fun b hb hn => (e5 b (by omega) hn).trans (Hp.new_get_ne _ _ _ (by omega))
          have hF0 : VSl H2 41 fr frs := I1.hfr.move (((I1.hat.ne_v I1.hfr (by decide)).and I1.hfrb).mono fun b hb => old2 b hb.2.2 hb.1)
          have hF : VSl (H2.new (.cells [f] 41 false)).skip 41 fr frs := hF0.move (I1.hfrb.mono fun b hb => Hp.new_get_ne _ _ _ (by omega))
          have hfs : scalars [f] = true := by cases f1 <;> rfl
          have fbeq : AV.beq f f = true := by
            cases f1 with
            | nil => rfl
            | mk _ => exact beq_slice ..
          have hflen : frs.length = st.length := by have := I1.hfrs.length; simpa using this
          obtain ⟨fr2, H3, c1, c2, c3, c4, c5⟩ := append_v (E := Tryz.env) (t := 42) (e := 41) (v := f) (nb := H2.next) (id := H2.next + 1) (o := false) (op1 := 0) te42 (show Tryz.env.tt.get none 41 = some Tryz.t41 from rfl) rfl rfl (by decide) rfl rfl hF
            (Hp.new_get_eq _ _ _ rfl) hfs fbeq (by omega) (I1.hfrb.mono fun b hb => by omega)
          have n3 : H3.next = H1.next + 4 := by have : H3.next = H2.next + 2 := c2; omega
          have ble1 : Nat.ble 1 16777216 = true := rfl
          have s13 : s1 13 = at_ := I1.h13
          have s14 : s1 14 = fr := I1.h14
          have fc : f.cells = [f] := by cases f1 <;> rfl
          have fsz : sized f 1 = true := by cases f1 <;> rfl
          simp [h17', s13, s14, s18, buildSliceS, te22, ts3, tz3, te42, ts41, tz41, fillES, rep, sliceTo, Hp.new_next, ble1, e1, c1, fc, fsz]
          refine G.exit rfl (G.inLoop ?_)
          have at2l : lenS Tryz.env 22 at2 = some (nI (st.length + 1)) := by
            have := e3.len (E := Tryz.env) tu22
            simpa using this
          have ls : lenS Tryz.env 28 sb = some (nI S.length) := by
            rw [lenS_slice sb tu28]
            rcases I.hS.sl with ⟨rfl, rfl⟩ | ⟨b, cap, op, c, o, rfl, _⟩ <;> rfl
          have at2b : Blk (fun b => B0 ≤ b ∧ b < H2.next) at2 := by
            rcases e4 with h | ⟨b, o, n, c, p, o', n', c', p', h1, h2⟩
            · exact h.mono fun b hb => by have := I1.hB; omega
            · have := I1.hatb; rw [h1] at this; rw [h2]; exact ⟨this.1, by have := this.2; omega⟩
          have fr2b : Blk (fun b => B0 ≤ b ∧ b < H3.next) fr2 := by
            rcases c4 with h | ⟨b, o, n, c, p, o', n', c', p', h1, h2⟩
            · exact h.mono fun b hb => by have := I1.hB; omega
            · have := I1.hfrb; rw [h1] at this; rw [h2]; exact ⟨this.1, by have := this.2; omega⟩
          have old3 : ∀ b, b < H2.next → Blk (fun c => b ≠ c) fr → H3.get b = H2.get b := fun b hb hn => (c5 b (by omega) hn).trans (Hp.new_get_ne _ _ _ (by omega))
          -- what is neither at nor fresh is as it was
          have oldc : ∀ b cs e o, b < H1.next → H1.get b = some (.cells cs e o) → e ≠ 3 → e ≠ 41 → H3.get b = H1.get b := by
            intro b cs e o hb hc h3 h41
            rw [old3 b (by omega) (I1.hfr.ne_cells hc h41), old2 b hb (I1.hat.ne_cells hc h3)]
          have ps3 : H3.get ps = some (.cells [.str [112], .nilSlice, sb] 30 false) := (oldc ps _ _ _ I1.hpsB.2 I1.hps (by decide) (by decide)).trans I1.hps
          have l3 : loadS Tryz.env 28 H3 (ps, 2) = some sb := load_one tg28 ts28 ps3 rfl
          have I3 : ∀ s', s' 2 = .ptr pr 0 → s' 3 = .ptr ps 0 → s' 10 = .map M → s' 13 = at2 → s' 14 = fr2 → s' 15 = nI (looks + 1) → LaidInv B0 M pr ps rb sb R S ((k, q2) :: st) (looks + 1) q1 s' H3 at2 fr2 (frs ++ [f]) := by
            intro s' r2 r3 r10 r13 r14 r15
            have oldB3 : ∀ b, b < B0 → H3.get b = H1.get b := fun b hb => by
              rw [old3 b (by have := I1.hB; omega) (I1.hfrb.mono fun c hc => by omega), old2 b (by have := I1.hB; omega) (I1.hatb.mono fun c hc => by omega)]
            have oldM2 : H2.get M = H1.get M := old2 M I1.hM (I1.hat.ne_map I1.hm)
            have hm2 : MapAt H2 M q1 := by obtain ⟨mods, e⟩ := I1.hm; exact ⟨mods, oldM2.trans e⟩
            have oldM3 : H3.get M = H2.get M := old3 M (by have := I1.hM; omega) (hF0.ne_map hm2)
            have hm3 : MapAt H3 M q1 := by obtain ⟨mods, e⟩ := hm2; exact ⟨mods, oldM3.trans e⟩
            have hat3 : VSl H3 3 at2 (((k, q2) :: st).reverse.map fun x => nI x.1) := by
              have := e3.move (H' := H3) (((hF0.ne_v e3 (by decide)).and at2b).mono fun b hb => old3 b hb.2.2 hb.1)
              simpa using this
            have str3 : ∀ a l, StrSl H1 a l → Blk (fun b => b < H1.next) a → Blk (fun b => H3.get b = H1.get b) a := by
              intro a l ha hb
              cases ha with
              | nil => trivial
              | mk h1 => exact oldc _ _ _ _ hb h1 (by decide) (by decide)
            have hfrs3 : FrSl H3 B0 (frs ++ [f]) (((k, q2) :: st).reverse.map (·.2)) := by
              have a1 : FrSl H3 B0 frs (st.reverse.map (·.2)) := I1.hfrs.move (by omega) fun a l ha hb => str3 a l ha (hb.mono fun b hb => hb.2)
              have a2 := a1.append (f1.move (str3 f q2 f1 (fb1.mono fun b hb => hb.2))) (fb1.mono fun b hb => by have := I1.hB; have := I.hB; omega)
              simpa using a2
            have pr3 : H3.get pr = some (.cells [.str [112], .nilSlice, rb] 30 false) := (oldc pr _ _ _ I1.hprB.2 I1.hpr (by decide) (by decide)).trans I1.hpr
            exact ⟨r2, r3, r10, r13, r14, r15, hat3, c3, hfrs3, at2b.mono fun b hb => by omega, fr2b, hm3, ps3, pr3, I1.hR.move oldB3, I1.hS.move oldB3, I1.hMB, by have := I1.hM; omega, by have := I1.hB; omega, ⟨I1.hpsB.1, by have := I1.hpsB.2; omega⟩, ⟨I1.hprB.1, by have := I1.hprB.2; omega⟩⟩
          repeat refine G.seq ?_
          refine G.run v17_17 ?_
          have s3 : s1 3 = .ptr ps 0 := I1.h3
          simp [at2l, s3, tf30_1, l3, ls]
          by_cases hmore : st.length + 1 < S.length
          · rw [if_pos hmore] at hgo
            refine G.cond (t := true) (by simp [hmore]) (G.skip (G.block ?_))
            repeat refine G.seq ?_
            refine G.run v17_18 ?_
            simp
            refine G.block (G.loop ?_)
            refine (ih ((k, q2) :: st) 0 (looks + 1) q1 _ H3 at2 fr2 (frs ++ [f]) r hgo (I3 _ ?_ ?_ ?_ ?_ ?_ ?_) (by simp) hmore (by omega) (fun x hx => by rcases List.mem_cons.1 hx with rfl | hx; exact ⟨hkR, hq2⟩; exact hk x hx)).mono ?_
            · simp [I1.h2]
            · simp [I1.h3]
            · simp [I1.h10]
            · simp
            · simp
            · simp [I1.h15]
            · rintro v H' ⟨l1, l2, l3⟩
              refine ⟨by omega, fun b hb => ?_, l3⟩
              rw [l2 b hb, c5 b (by have := I1.hB; omega) (I1.hfrb.mono fun c hc => by omega), Hp.skip_get, Hp.new_get_ne _ _ _ (by have := I1.hB; omega), e5 b (by have := I1.hB; omega) (I1.hatb.mono fun c hc => by omega), Hp.skip_get, Hp.new_get_ne _ _ _ (by have := I1.hB; omega),
                old1 b (by have := I.hMB; omega) (by have := I.hB; omega)]
          · rw [if_neg hmore] at hgo
            cases hgo
            refine G.cond (t := false) (by simp; omega) (G.exit rfl ?_)
            repeat refine G.seq ?_
            refine G.run v17_32 ?_
            simp
            refine G.ret fn17 (l := [at2, .bool true, nI 0]) (by rw [res17]; simp [resL, resS]) ⟨by omega, fun b hb => ?_, at2, rfl⟩
            rw [c5 b (by have := I1.hB; omega) (I1.hfrb.mono fun c hc => by omega), Hp.skip_get, Hp.new_get_ne _ _ _ (by have := I1.hB; omega), e5 b (by have := I1.hB; omega) (I1.hatb.mono fun c hc => by omega), Hp.skip_get, Hp.new_get_ne _ _ _ (by have := I1.hB; omega),
              old1 b (by have := I.hMB; omega) (by have := I.hB; omega)]
    · rw [if_neg hkR] at hgo
      refine G.cond (t := false) (by simp; omega) (G.exit rfl ?_)
      repeat refine G.seq ?_
      refine G.run v17_27 ?_
      have hatl : lenS Tryz.env 22 at_ = some (nI st.length) := by
        have := I.hat.len (E := Tryz.env) tu22
        simpa using this
      cases st with
      | nil =>
        obtain ⟨mi, b1, b2⟩ : ∃ v, binA Tryz.env 3 true .sub (nI 0) (nI 1) = some v ∧ binA Tryz.env 3 true .lss v (nI 0) = some (.bool true) := ⟨.int .i64 (.negSucc 0), rfl, rfl⟩
        cases hgo
        replace hatl : lenS Tryz.env 22 at_ = some (nI 0) := hatl
        simp [I.h13, hatl, b1]
        repeat refine G.seq ?_
        refine G.run v17_28 ?_
        simp [b2]
        refine G.cond (t := true) (by simp) ?_
        repeat refine G.seq ?_
        refine G.run v17_29 ?_
        simp
        exact G.ret fn17 (l := [.nilSlice, .bool false, nI 0]) (by rw [res17]; simp [resL, resS]) ⟨Nat.le_refl _, fun _ _ => rfl, .nilSlice, rfl⟩
      | cons x st =>
        obtain ⟨j, l⟩ := x
        simp only [] at hgo
        have hjR : j < R.length := (hk (j, l) List.mem_cons_self).1
        have hst' : st.length < S.length := by simp at hst; omega
        have hat := I.hat
        have hfr := I.hfr
        have hfl : frs.length = st.length + 1 := by have := I.hfrs.length; simpa using this
        replace hatl : lenS Tryz.env 22 at_ = some (nI (st.length + 1)) := hatl
        simp [I.h13, hatl, n_sub (E := Tryz.env) 3 true (st.length + 1) 1 (by omega) (by omega)]
        repeat refine G.seq ?_
        refine G.run v17_28 ?_
        simp
        refine G.cond (t := false) (by simp) (G.skip ?_)
        refine G.seq (G.run v17_30 ?_)
        -- the last of fresh
        have hfn : frs[st.length]? = some (frs[st.length]'(by omega)) := List.getElem?_eq_getElem (by omega)
        have hln : (((j, l) :: st).reverse.map (·.2))[st.length]? = some l := by simp
        obtain ⟨sl1, sl2⟩ := I.hfrs.get st.length hfn hln
        generalize hla : frs[st.length]'(by omega) = la at hfn sl1 sl2
        have hfx : ∃ b c p, fr = .slice b 0 frs.length c p ∧ loadS Tryz.env 41 H (b, st.length) = some la := by
          cases hfr with
          | nil => simp at hfl
          | @mk b cap c _ o h1 h2 h3 h4 h5 h6 =>
            obtain ⟨_, _, cs, q, g1, g2, _⟩ := I.hfr.nth (i := st.length) (by omega)
            exact ⟨b, _, _, rfl, load_one tg41 ts41 g1 (g2.trans (by rw [hla]))⟩
        obtain ⟨bf, cf, pf, hfe, hfl2⟩ := hfx
        have hlt : st.length < frs.length := by omega
        have h14 := I.h14
        rw [hfe] at h14
        simp [I.h10, h14, index_slice tu42 ts41 hlt, hfl2]
        have hms : MapAt H.skip M p := I.hm
        have hll : l.length < 4611686018427387904 := by have := (hk (j, l) List.mem_cons_self).2; simp only [] at this; omega
        refine (forget_spec (d := d + 1) (l := l) (p := p) hll hms (sl1.move (sl2.mono fun b hb => rfl)) (by rw [Hp.skip_next]; have := I.hM; omega) (sl2.mono fun b hb => by rw [Hp.skip_next]; omega)).use ?_
        rintro v H1 ⟨⟨f1, f2⟩, f3⟩
        rw [Hp.skip_next] at f1 f2
        have old1 : ∀ b, b ≠ M → b < H.next → H1.get b = H.get b := fun b hM hb => (f2 b hM (by omega))
        simp
        have mv : ∀ {e x vs}, VSl H e x vs → Blk (fun b => B0 ≤ b ∧ b < H.next) x → VSl H1 e x vs := fun h hb => h.move (((h.ne_map I.hm).and hb).mono fun b hb => old1 b (Ne.symm hb.1) hb.2.2)
        have hat1 := mv I.hat I.hatb
        have hfr1 := mv I.hfr I.hfrb
        rw [← hfe] at h14
        have hax : ∃ ba c p, at_ = .slice ba 0 (st.length + 1) c p ∧ ∃ cs q, H1.get ba = some (.cells cs 3 q) ∧ AV.beqL cs cs = true ∧ loadS Tryz.env 3 ⟨H1.get, H1.next + 14⟩ (ba, st.length) = some (nI j) := by
          have hle : (((j, l) :: st).reverse.map fun x => nI x.1).length = st.length + 1 := by simp
          have hge : (((j, l) :: st).reverse.map fun x => nI x.1)[st.length]'(by omega) = nI j := by simp
          have hns : ∃ b o n c p, at_ = .slice b o n c p := by
            clear hge
            generalize (((j, l) :: st).reverse.map fun x => nI x.1) = vs at hat1 hle
            cases hat1 with
            | nil => simp at hle
            | mk => exact ⟨_, _, _, _, _, rfl⟩
          obtain ⟨b, o, n, c, p, hx⟩ := hns
          · rw [hx] at hat1
            obtain ⟨q1, q2, cs, q, g1, g2, g3⟩ := hat1.nth (i := st.length) (by omega)
            subst q1 q2
            exact ⟨b, c, p, by rw [hx, hle], cs, q, g1, g3, load_one tg3 ts3 g1 (g2.trans (by rw [hge]))⟩
        obtain ⟨ba, ca, pa, hae, cs, q, hga, hgb, hgl⟩ := hax
        obtain ⟨at2, a1, a2, a3⟩ := hat1.cut (E := Tryz.env) tu22 ts3 (n := st.length) (by simp)
        obtain ⟨fr2, b1, b2, b3⟩ := hfr1.cut (E := Tryz.env) tu42 ts41 (n := st.length) (by omega)
        have h13 := I.h13
        refine G.drawn rfl v17_31 w17_31 rfl ?_
        have ix : indexAddrA Tryz.env 22 at_ (nI st.length) = some (.ptr ba st.length) := by
          rw [hae]; have := index_slice (E := Tryz.env) (b := ba) (off := 0) (c := ca) (p := pa) tu22 ts3 (show st.length < st.length + 1 by omega)
          simpa using this
        simp [h13, h14, ix, hgl]
        rw [rdB_some (H := ⟨H1.get, H1.next + 14⟩) _ hga]
        refine ⟨readOk_first hga (sameO_cells hgb), ?_⟩
        simp [n_add (E := Tryz.env) 3 true j 1 (by omega), h13, h14, a1, b1]
        refine G.inBlock (G.inLoop ?_)
        repeat refine G.seq ?_
        refine G.run v17_17 ?_
        have at2l : lenS Tryz.env 22 at2 = some (nI st.length) := by
          have := a2.len (E := Tryz.env) tu22
          simpa using this
        have ls : lenS Tryz.env 28 sb = some (nI S.length) := by
          rw [lenS_slice sb tu28]
          rcases I.hS.sl with ⟨rfl, rfl⟩ | ⟨b, cap, op, c, o, rfl, _⟩ <;> rfl
        have psM : ps ≠ M := by
          obtain ⟨mods, e⟩ := I.hm
          intro h; have := I.hps; rw [h, e] at this; cases this
        have prM : pr ≠ M := by
          obtain ⟨mods, e⟩ := I.hm
          intro h; have := I.hpr; rw [h, e] at this; cases this
        have ps1 : H1.get ps = some (.cells [.str [112], .nilSlice, sb] 30 false) := (old1 ps psM I.hpsB.2).trans I.hps
        have pr1 : H1.get pr = some (.cells [.str [112], .nilSlice, rb] 30 false) := (old1 pr prM I.hprB.2).trans I.hpr
        have l3 : loadS Tryz.env 28 ⟨H1.get, H1.next + 14⟩ (ps, 2) = some sb := load_one tg28 ts28 ps1 rfl
        simp [at2l, I.h3, tf30_1, l3, ls]
        refine G.cond (t := true) (by simp [hst']) (G.skip (G.block ?_))
        repeat refine G.seq ?_
        refine G.run v17_18 ?_
        simp
        refine G.block (G.loop ?_)
        refine (ih st (j + 1) looks (prmAll p l) _ ⟨H1.get, H1.next + 14⟩ at2 fr2 (frs.take st.length) r hgo ?_ (by simp) hst' hlk (fun x hx => hk x (List.mem_cons_of_mem _ hx))).mono ?_
        · have oldB : ∀ b, b < B0 → H1.get b = H.get b := fun b hb => old1 b (by have := I.hMB; omega) (by have := I.hB; omega)
          have t1 : VSl ⟨H1.get, H1.next + 14⟩ 3 at2 (st.reverse.map fun x => nI x.1) := by
            have := a2.move (H' := ⟨H1.get, H1.next + 14⟩) (by cases at2 <;> first | rfl | trivial)
            simpa using this
          have t2 : VSl ⟨H1.get, H1.next + 14⟩ 41 fr2 (frs.take st.length) := b2.move (by cases fr2 <;> first | rfl | trivial)
          have t3 : FrSl ⟨H1.get, H1.next + 14⟩ B0 (frs.take st.length) (st.reverse.map (·.2)) := by
            have h1 : FrSl H B0 (frs.take st.length) (st.reverse.map (·.2)) := by have := I.hfrs.take st.length; simpa using this
            exact h1.move (by show H.next ≤ H1.next + 14; omega) fun a l ha hb => ((StrSl.ne_map ha I.hm).and hb).mono fun b hb => old1 b hb.1 hb.2.2
          have t4 : Blk (fun b => B0 ≤ b ∧ b < H1.next + 14) at2 := by
            obtain ⟨b, o, m, c, p, o', m', c', p', h1, h2⟩ := a3
            have := I.hatb; rw [h1] at this; rw [h2]; exact ⟨this.1, by have := this.2; omega⟩
          have t5 : Blk (fun b => B0 ≤ b ∧ b < H1.next + 14) fr2 := by
            obtain ⟨b, o, m, c, p, o', m', c', p', h1, h2⟩ := b3
            have := I.hfrb; rw [h1] at this; rw [h2]; exact ⟨this.1, by have := this.2; omega⟩
          exact ⟨by simp [I.h2], by simp [I.h3], by simp [I.h10], by simp, by simp, by simp [I.h15], t1, t2, t3, t4, t5, f3, ps1, pr1, I.hR.move oldB, I.hS.move oldB, I.hMB, by show M < H1.next + 14; have := I.hM; omega, by show B0 ≤ H1.next + 14; have := I.hB; omega,
            ⟨I.hpsB.1, by show ps < H1.next + 14; have := I.hpsB.2; omega⟩, ⟨I.hprB.1, by show pr < H1.next + 14; have := I.hprB.2; omega⟩⟩
        · rintro v H' ⟨l1, l2, l3⟩
          refine ⟨Nat.le_trans (by show H.next ≤ H1.next + 14; omega) l1, fun b hb => (l2 b hb).trans (old1 b (by have := I.hMB; omega) (by have := I.hB; omega)), l3⟩
end
end Go.Proofs
end
section
namespace Go.Proofs
open Go Go.Ab
set_option linter.unusedVariables false
set_option linter.unusedSimpArgs false
noncomputable section

def ruleV (b : AV) : AV := .agg [.str [112], .nilSlice, b]
structure Kept (H H' : Hp) : Prop where
  le : H.next ≤ H'.next
  get : ∀ c, c < H.next → H'.get c = H.get c
/-- what is known of a rule's body -/
def GoodBody (GoodName : List Nat → Prop) (l : List (List (List Nat))) : Prop := l.length ≤ 64 ∧ ∀ t, t ∈ l → t.length = 2 ∧ ∀ x, x ∈ t → GoodName x
/-- MayRule, Plain: what calls of them come to -/
def MayC (GN : List Nat → Prop) (d : Nat) : Prop := ∀ (H : Hp) (B0 : Nat) (b : AV) (l : List (List (List Nat))), BodySl H B0 [101] b l → GoodBody GN l → B0 ≤ H.next → Go.Ab.Fn Tryz.env d 18 [ruleV b] H fun v H' => v = nI 0 ∧ Kept H H'
def PlainC (GN : List Nat → Prop) (d : Nat) : Prop := ∀ (H : Hp) (B0 : Nat) (b : AV) (l : List (List (List Nat))), BodySl H B0 [101] b l → GoodBody GN l → B0 ≤ H.next → Go.Ab.Fn Tryz.env d 19 [ruleV b] H fun v H' => v = .bool true ∧ Kept H H'

/-- one round of the first loop -/
theorem laid_may {d B0 q i : Nat} {GN : List Nat → Prop} {b : AV} {l : List (List (List Nat))} {td : List Item} {s : Store} {H : Hp} {Q : AV → Hp → Prop} (hMay : MayC GN (d + 2)) (hb : BodySl H B0 [101] b l) (hg : GoodBody GN l) (hB : B0 ≤ H.next) (hi : i < 2)
    {cs : List AV} {o : Bool} (h23 : s 23 = .slice q 0 2 2 0) (h24 : s 24 = nI 2) (h25 : s 25 = nI i) (hq : H.get q = some (.cells cs 30 o)) (hc : cut cs (i * 3) 3 = some [.str [112], .nilSlice, b])
    (hQ : ∀ s' H', Kept H H' → (∀ k, k < 8 ∨ k = 23 ∨ k = 24 → s' k = s k) → s' 25 = nI (i + 1) → G Tryz.env (d + 2) ⟨17, 124, none⟩ (.code L17_0 :: .inLoop L17_0 :: td) s' H' Q) :
    G Tryz.env (d + 2) ⟨17, 124, none⟩ (.code L17_0 :: .inLoop L17_0 :: td) s H Q := by
  have hqn : loadS Tryz.env 30 H (q, i * 3) = some (ruleV b) := load_agg tg30 ts30 hq hc
  have ix : indexAddrA Tryz.env 70 (.slice q 0 2 2 0) (nI i) = some (.ptr q (i * 3)) := by
    have := index_slice (E := Tryz.env) (b := q) (off := 0) (c := 2) (p := 0) tu70 ts30 hi
    simpa using this
  refine G.seq (G.run v17_2 ?_)
  simp [h24, h25]
  refine G.seq (G.cond (t := true) (by simp [hi]) (G.skip (G.seq (G.block ?_))))
  repeat refine G.seq ?_
  refine G.run v17_3 ?_
  simp [h23, h25, ix, hqn, tz30]
  rw [store_at (c := [.str [], .nilSlice, .nilSlice]) (c' := [.str [112], .nilSlice, b]) (e := 30) (o := false) ts30 (by simp [Hp.skip_get, Hp.new_get_eq]) (by rcases hb.sl with ⟨rfl, _⟩ | ⟨_, _, _, _, _, rfl, _⟩ <;> rfl) (by rfl)]
  simp
  refine G.genH fun H1 hH1 => ?_
  have n1 : H1.next = H.next + 2 := by rw [hH1]; rfl
  have g1 : ∀ c, c < H.next → H1.get c = H.get c := by intro c hc; rw [hH1]; simp [Hp.put_get_ne, Hp.skip_get, Hp.new_get_ne, Nat.ne_of_lt hc]
  have t1 : H1.get H.next = some (.cells [.str [112], .nilSlice, b] 30 false) := by rw [hH1, Hp.put_get_eq]
  clear hH1
  repeat refine G.seq ?_
  refine G.run v17_4 ?_
  have l1 : loadS Tryz.env 30 H1 (H.next, 0) = some (ruleV b) := load_agg tg30 ts30 t1 rfl
  simp [l1]
  have hb1 : BodySl H1.skip B0 [101] b l := hb.move fun c hc => g1 c (by omega)
  refine (hMay H1.skip B0 b l hb1 hg (by rw [Hp.skip_next]; omega)).use ?_
  rintro v H2 ⟨rfl, k1, k2⟩
  rw [Hp.skip_next] at k1 k2
  simp
  repeat refine G.seq ?_
  refine G.run v17_5 ?_
  simp
  refine G.cond (t := false) (by simp) (G.skip (G.inBlock ?_))
  refine G.run v17_7 ?_
  simp [h25, n_add (E := Tryz.env) 3 true i 1 (by omega)]
  refine G.inLoop (hQ _ H2 ⟨by omega, fun c hc => (k2 c (by omega)).trans (g1 c hc)⟩ ?_ (by simp))
  intro k hk
  simp only [setS_eq]
  rcases hk with hk | rfl | rfl
  · have : ∀ n, 8 ≤ n → k ≠ n := fun n hn => by omega
    simp [this]
  · simp
  · simp

/-- LAID. -/
theorem laid_ok {d : Nat} {GN : List Nat → Prop} {rb sb : AV} {R S : List (List (List Nat))} {H : Hp} {n : Nat} {r : LRes} (hMay : MayC GN (d + 2)) (hPlain : PlainC GN (d + 2)) (hR : BodySl H H.next [101] rb R) (hS : BodySl H H.next [101] sb S) (gR : GoodBody GN R) (gS : GoodBody GN S)
    (hgo : laidF R S n = some r) : Go.Ab.Fn Tryz.env (d + 3) 17 [ruleV rb, ruleV sb] H fun v H' => LaidSpec H.next H H' r v := by
  refine Fn.enter sm17 fk17 fn17 body17 (by rw [nt17]; exact Nat.le_of_ble_eq_true rfl) (by rw [nt17]; decide) ?_
  rw [nt17]
  have a0 : argS [ruleV rb, ruleV sb] 0 = ruleV rb := rfl
  have a1 : argS [ruleV rb, ruleV sb] 1 = ruleV sb := rfl
  generalize argS [ruleV rb, ruleV sb] = s at a0 a1
  repeat refine G.seq ?_
  refine G.run v17_0 ?_
  simp [a0, a1, ruleV]
  refine G.genH fun H1 hH1 => ?_
  have n1 : H1.next = H.next + 2 := by rw [hH1]; rfl
  have g1 : ∀ b, b < H.next → H1.get b = H.get b := by
    intro b hb; rw [hH1, Hp.new_get_ne _ _ _ (by rw [Hp.new_next]; omega), Hp.new_get_ne _ _ _ (by omega)]
  have t2 : H1.get H.next = some (.cells [.str [112], .nilSlice, rb] 30 false) := by
    rw [hH1, Hp.new_get_ne _ _ _ (by rw [Hp.new_next]; omega), Hp.new_get_eq _ _ _ rfl]
  have t3 : H1.get (H.next + 1) = some (.cells [.str [112], .nilSlice, sb] 30 false) := by
    rw [hH1]; exact Hp.new_get_eq _ _ _ rfl
  clear hH1
  refine G.scope ?_
  repeat refine G.seq ?_
  refine G.run v17_1 ?_
  have l2 : loadS Tryz.env 30 H1 (H.next, 0) = some (.agg [.str [112], .nilSlice, rb]) := load_agg tg30 ts30 t2 rfl
  have l3 : loadS Tryz.env 30 H1 (H.next + 1, 0) = some (.agg [.str [112], .nilSlice, sb]) := load_agg tg30 ts30 t3 rfl
  have ble6 : Nat.ble 6 16777216 = true := rfl
  have ls70 : ∀ q, lenS Tryz.env 70 (.slice q 0 2 2 0) = some (nI 2) := fun _ => rfl
  simp [l2, l3, Hp.new_next, buildSliceS, te70, ts30, tz30, fillES, rep, sliceTo, ble6, ls70]
  refine G.genH fun H2 hH2 => ?_
  have n2 : H2.next = H.next + 3 := by rw [hH2, Hp.new_next, n1]
  have g2 : ∀ b, b < H1.next → H2.get b = H1.get b := by intro b hb; rw [hH2, Hp.new_get_ne _ _ _ (by omega)]
  have t4 : H2.get H1.next = some (.cells [.str [112], .nilSlice, rb, .str [112], .nilSlice, sb] 30 false) := by
    rw [hH2]; exact Hp.new_get_eq _ _ _ rfl
  clear hH2
  refine G.block (G.loop ?_)
  have R2 : BodySl H2 H.next [101] rb R := hR.move fun b hb => (g2 b (by omega)).trans (g1 b hb)
  refine laid_may (B0 := H.next) (q := H1.next) (i := 0) (b := rb) (l := R) hMay R2 gR (by omega) (by decide) (by simp) (by simp) (by simp) t4 rfl ?_
  intro s3 H3 k3 sk3 s325
  have t5 : H3.get H1.next = some (.cells [.str [112], .nilSlice, rb, .str [112], .nilSlice, sb] 30 false) := (k3.get _ (by omega)).trans t4
  have S3 : BodySl H3 H.next [101] sb S := hS.move fun b hb => (k3.get b (by omega)).trans ((g2 b (by omega)).trans (g1 b hb))
  refine laid_may (B0 := H.next) (q := H1.next) (i := 1) (b := sb) (l := S) hMay S3 gS (by have := k3.le; omega) (by decide) (by rw [sk3 23 (by omega)]; simp) (by rw [sk3 24 (by omega)]; simp) s325 t5 rfl ?_
  intro s4 H4 k4 sk4 s425
  have old4 : ∀ b, b < H1.next → H4.get b = H1.get b := fun b hb => (k4.get b (by have := k3.le; omega)).trans ((k3.get b (by omega)).trans (g2 b hb))
  have n4 : H2.next ≤ H4.next := Nat.le_trans k3.le k4.le
  have nH : H.next + 3 ≤ H4.next := by omega
  have q2 : s4 2 = .ptr H.next 0 := by rw [sk4 2 (by omega), sk3 2 (by omega)]; simp
  have q3 : s4 3 = .ptr (H.next + 1) 0 := by rw [sk4 3 (by omega), sk3 3 (by omega)]; simp [n1]
  refine G.seq (G.run v17_2 ?_)
  have q24 : s4 24 = nI 2 := by rw [sk4 24 (by omega), sk3 24 (by omega)]; simp
  simp [q24, s425]
  refine G.seq (G.cond (t := false) (by simp) (G.exit rfl ?_))
  repeat refine G.seq ?_
  refine G.run v17_8 ?_
  have l2b : loadS Tryz.env 30 H4 (H.next, 0) = some (ruleV rb) := load_agg tg30 ts30 ((old4 _ (by omega)).trans t2) rfl
  simp [q2, l2b]
  have R4 : BodySl H4.skip H.next [101] rb R := hR.move fun b hb => (old4 b (by omega)).trans (g1 b hb)
  refine (hPlain H4.skip H.next rb R R4 gR (by rw [Hp.skip_next]; omega)).use ?_
  rintro v H5 ⟨rfl, k5⟩
  have n5 : H4.next + 1 ≤ H5.next := k5.le
  have old5 : ∀ b, b < H1.next → H5.get b = H1.get b := fun b hb => (k5.get b (by rw [Hp.skip_next]; omega)).trans (old4 b hb)
  have l3b : loadS Tryz.env 30 H5 (H.next + 1, 0) = some (ruleV sb) := load_agg tg30 ts30 ((old5 _ (by omega)).trans t3) rfl
  simp [q3, l3b]
  have S5 : BodySl H5.skip H.next [101] sb S := hS.move fun b hb => (old5 b (by omega)).trans (g1 b hb)
  refine (hPlain H5.skip H.next sb S S5 gS (by rw [Hp.skip_next]; omega)).use ?_
  rintro v H6 ⟨rfl, k6⟩
  have n6 : H5.next + 1 ≤ H6.next := k6.le
  have old6 : ∀ b, b < H1.next → H6.get b = H1.get b := fun b hb => (k6.get b (by rw [Hp.skip_next]; omega)).trans (old5 b hb)
  simp
  refine G.cond (t := false) (by simp) (G.skip ?_)
  repeat refine G.seq ?_
  refine G.run v17_10 ?_
  have mk : (bif ((Tryz.env.under 72).map isMap).getD false then some ((AObj.map [] 0, AV.map) : AObj × (Nat → AV)) else none) = some (.map [] 0, .map) := rfl
  simp [mk]
  refine G.genH fun H7 hH7 => ?_
  have n7 : H7.next = H6.next + 1 := by rw [hH7, Hp.new_next]
  have g7 : ∀ b, b < H6.next → H7.get b = H6.get b := by intro b hb; rw [hH7, Hp.new_get_ne _ _ _ (by omega)]
  have m7 : MapAt H7 H6.next [] := ⟨0, by rw [hH7]; exact Hp.new_get_eq _ _ _ rfl⟩
  clear hH7
  have old7 : ∀ b, b < H1.next → H7.get b = H1.get b := fun b hb => (g7 b (by omega)).trans (old6 b hb)
  repeat refine G.seq ?_
  refine G.run v17_11 ?_
  have l2c : loadS Tryz.env 27 H7 (H.next, 0) = some (.agg [.str [112], .nilSlice]) := load_agg tg27 ts27 ((old7 _ (by omega)).trans t2) rfl
  have l3c : loadS Tryz.env 27 H7 (H.next + 1, 0) = some (.agg [.str [112], .nilSlice]) := load_agg tg27 ts27 ((old7 _ (by omega)).trans t3) rfl
  simp [q2, q3, tf30_0, l2c, l3c]
  refine (lay_ok (d := d) (H := H7.skip) (M := H6.next) (xs := []) (ys := []) (pred := [112]) (p := []) rfl (by simp) m7 .nil .nil (by rw [Hp.skip_next]; omega) trivial trivial).use ?_
  rintro v H8 ⟨b1, b2, b3, f, rfl, b4, b5⟩
  rw [Hp.skip_next] at b1 b2
  have old8 : ∀ b, b < H1.next → H8.get b = H1.get b := fun b hb => (b2 b (by omega) (by omega)).trans (old7 b hb)
  have m8 : MapAt H8 H6.next [] := b3
  simp [layF]
  repeat refine G.seq ?_
  refine G.run v17_12 ?_
  simp
  refine G.cond (t := false) (by simp) (G.skip ?_)
  repeat refine G.seq ?_
  refine G.run v17_14 ?_
  simp
  repeat refine G.seq ?_
  refine G.run v17_15 ?_
  simp
  repeat refine G.seq ?_
  refine G.run v17_16 ?_
  simp
  refine G.seq (G.label ?_)
  refine G.seq (G.block (G.loop ?_))
  repeat refine G.seq ?_
  refine G.run v17_17 ?_
  have ls : lenS Tryz.env 28 sb = some (nI S.length) := by
    rw [lenS_slice sb tu28]
    rcases hS.sl with ⟨rfl, rfl⟩ | ⟨b, cap, op, c, o, rfl, _⟩ <;> rfl
  have l0 : lenS Tryz.env 22 .nilSlice = some (nI 0) := rfl
  have ps8 : H8.get (H.next + 1) = some (.cells [.str [112], .nilSlice, sb] 30 false) := (old8 _ (by omega)).trans t3
  have pr8 : H8.get H.next = some (.cells [.str [112], .nilSlice, rb] 30 false) := (old8 _ (by omega)).trans t2
  have l8 : loadS Tryz.env 28 H8 (H.next + 1, 2) = some sb := load_one tg28 ts28 ps8 rfl
  have oldB : ∀ b, b < H.next → H8.get b = H.get b := fun b hb => (old8 b (by omega)).trans (g1 b hb)
  simp [l0, q3, tf30_1, l8, ls]
  unfold laidF at hgo
  by_cases hS0 : 0 < S.length
  · rw [if_pos hS0] at hgo
    refine G.cond (t := true) (by simp [hS0]) (G.skip (G.block ?_))
    repeat refine G.seq ?_
    refine G.run v17_18 ?_
    simp
    refine G.block (G.loop ?_)
    refine (laid_go (d := d) (B0 := H.next) (M := H6.next) (pr := H.next) (ps := H.next + 1) (rb := rb) (sb := sb) (R := R) (S := S) (by have := gR.1; omega) (by have := gS.1; omega)
      (fun a b ha hb => ⟨(gS.2 a ha).1.trans (gR.2 b hb).1.symm, by rw [(gS.2 a ha).1]; omega⟩) n [] 0 0 [] _ H8 .nilSlice .nilSlice [] r hgo ?_ (by simp) hS0 (by omega) (fun x hx => by cases hx)).mono ?_
    · exact ⟨by simp [q2], by simp [q3], by simp, by simp, by simp, by simp, .nil, .nil, trivial, trivial, trivial, m8, ps8, pr8, hR.move oldB, hS.move oldB, by omega, by omega, by omega, ⟨by omega, by omega⟩, ⟨by omega, by omega⟩⟩
    · rintro v H' ⟨l1, l2, l3⟩
      exact ⟨by omega, fun b hb => (l2 b hb).trans (oldB b hb), l3⟩
  · rw [if_neg hS0] at hgo
    cases hgo
    refine G.cond (t := false) (by have h0 : S = [] := List.length_eq_zero_iff.1 (by omega); simp [h0]) (G.exit rfl ?_)
    repeat refine G.seq ?_
    refine G.run v17_32 ?_
    simp
    exact G.ret fn17 (l := [.nilSlice, .bool true, nI 0]) (by rw [res17]; simp [resL, resS]) ⟨by omega, oldB, .nilSlice, rfl⟩
end
end Go.Proofs
end
