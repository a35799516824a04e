/- '==' of structs that hold a struct of plain cells. Conditions: none. -/
import Derived.Test.YtbclmkfibgmgdaaGreatDoorRdYB
namespace Go.Ab
section
variable {P : Program} {w : World} {μ : Mu}

inductive FieldsOk2 (P : Program) : List Field → List EK → Nat → Prop
  | nil {i : Nat} : FieldsOk2 P [] [] i
  | cons {f : Field} {fs : List Field} {k : EK} {ks : List EK} {i : Nat} : f.name ≠ "_" → P.underlying f.type = some k.desc → f.offset = i → FieldsOk2 P fs ks (i + 1) → FieldsOk2 P (f :: fs) (k :: ks) i
  | nest {f : Field} {fs : List Field} {fs2 : Array Field} {ks2 ks : List EK} {ti : TypeInfo} {i : Nat} : f.name ≠ "_" → P.underlying f.type = some (.struct fs2) → P.info? f.type = some ti → ti.size = ks2.length → P.stoodInHeld f.type = false → FieldsOk P fs2.toList ks2 0 →
      f.offset = i → FieldsOk2 P fs ks (i + ks2.length) → FieldsOk2 P (f :: fs) (ks2 ++ ks) i

theorem kindsOk_append : ∀ {k1 k2 : List EK} {a : List AV}, kindsOk (k1 ++ k2) a = true → kindsOk k1 (a.take k1.length) = true ∧ kindsOk k2 (a.drop k1.length) = true
  | [], k2, a, h => ⟨rfl, h⟩
  | k :: k1, k2, [], h => by simp [kindsOk] at h
  | k :: k1, k2, x :: a, h => by
    simp only [List.cons_append, kindsOk] at h
    obtain ⟨h1, h2⟩ := cond_and h
    obtain ⟨h3, h4⟩ := kindsOk_append h2
    refine ⟨?_, by simpa using h4⟩
    simp only [List.length_cons, List.take_succ_cons, kindsOk, h1, cond_true]
    exact h3
theorem kindsOk_length : ∀ {ks : List EK} {a : List AV}, kindsOk ks a = true → a.length = ks.length
  | [], [], _ => rfl
  | [], _ :: _, h => by simp [kindsOk] at h
  | _ :: _, [], h => by simp [kindsOk] at h
  | k :: ks, x :: a, h => by
    simp only [kindsOk] at h
    exact congrArg Nat.succ (kindsOk_length (cond_and h).2)
theorem eqScalars_append : ∀ {a1 a2 b : List AV} {r : Bool}, eqScalars (a1 ++ a2) b = some r → ∃ t, eqScalars a1 (b.take a1.length) = some t ∧ ((t = false ∧ r = false) ∨ (t = true ∧ eqScalars a2 (b.drop a1.length) = some r))
  | [], a2, b, r, h => ⟨true, rfl, .inr ⟨rfl, h⟩⟩
  | x :: a1, a2, [], r, h => by cases x <;> simp [eqScalars] at h
  | x :: a1, a2, y :: b, r, h => by
    cases x <;> cases y <;> simp only [List.cons_append, eqScalars] at h <;> try (cases h; done)
    · rename_i p q
      simp only [List.length_cons, List.take_succ_cons, List.drop_succ_cons, eqScalars]
      cases hb : boolEq p q with
      | false => rw [hb] at h; exact ⟨false, rfl, .inl ⟨rfl, (Option.some.inj h).symm⟩⟩
      | true => rw [hb] at h; exact eqScalars_append h
    · rename_i k p l q
      simp only [List.length_cons, List.take_succ_cons, List.drop_succ_cons, eqScalars]
      split at h
      · rename_i hk
        rw [if_pos hk]
        cases hb : intEq p q with
        | false => rw [hb] at h; exact ⟨false, rfl, .inl ⟨rfl, (Option.some.inj h).symm⟩⟩
        | true => rw [hb] at h; exact eqScalars_append h
      · cases h
    · rename_i p q
      simp only [List.length_cons, List.take_succ_cons, List.drop_succ_cons, eqScalars]
      cases hb : natsEq p q with
      | false => rw [hb] at h; exact ⟨false, rfl, .inl ⟨rfl, (Option.some.inj h).symm⟩⟩
      | true => rw [hb] at h; exact eqScalars_append h

theorem run_part_struct {e : TypeId} {fs : Array Field} {ti : TypeInfo} (hu : P.underlying e = some (.struct fs)) (hi : P.info? e = some ti) (xs : Array Value) (off : Nat) : (part e xs off).run P w = .ok (.agg (xs.extract off (off + ti.size))) w := by
  have hc : P.cellsOf e = ti.size := by unfold Program.cellsOf; rw [hi]; rfl
  simp only [part, isAgg, Sem.run_bind, run_underlying hu, Result.andThen_ok, Sem.run_pure, Sem.run_ite, if_true, run_sizeOf w hi, hc]
theorem extract_list (xs : Array Value) (i n : Nat) : (xs.extract i (i + n)).toList = (xs.toList.drop i).take n := by
  simp [Array.toList_extract]
theorem vrl_take {μ : Mu} : ∀ {a : List AV} {l : List Value} (n : Nat), VRL μ a l → VRL μ (a.take n) (l.take n)
  | _, _, 0, _ => by simpa using VRL.nil
  | _, _, n + 1, .nil => by simpa using VRL.nil
  | _, _, n + 1, .cons h1 h2 => .cons h1 (vrl_take n h2)
theorem vrl_drop {μ : Mu} : ∀ {a : List AV} {l : List Value} (n : Nat), VRL μ a l → VRL μ (a.drop n) (l.drop n)
  | _, _, 0, h => h
  | _, _, n + 1, .nil => by simpa using VRL.nil
  | _, _, n + 1, .cons h1 h2 => vrl_drop n h2

theorem eqFields2_ok (d : Nat) {xs ys : Array Value} : ∀ {fs : List Field} {ks : List EK} {i : Nat} {a b : List AV} {r : Bool}, FieldsOk2 P fs ks i → kindsOk ks a = true → eqScalars a b = some r → VRL μ a (xs.toList.drop i) → VRL μ b (ys.toList.drop i) →
    (Op.eqFields (d + 1 + 1) xs ys fs).run P w = .ok r w := by
  intro fs ks i a b r hf
  induction hf generalizing a b with
  | nil =>
    intro hk hr _ _
    cases a with
    | cons x a => simp [kindsOk] at hk
    | nil =>
      cases b with
      | nil => simp only [eqScalars, Option.some.injEq] at hr; subst hr; simp [Op.eqFields]
      | cons y b => simp [eqScalars] at hr
  | cons hn hu ho _ ih =>
    intro hk hr ha hb
    cases a with
    | nil => simp [kindsOk] at hk
    | cons x a =>
      simp only [kindsOk] at hk
      obtain ⟨hk1, hk2⟩ := cond_and hk
      generalize hxs : xs.toList.drop _ = xl at ha
      cases ha with | cons hv hl =>
      obtain ⟨hx1, hx2⟩ := drop_cons hxs
      obtain ⟨u, b', ys', e1, e2, t, e3, e4⟩ := cell_eq (P := P) (w := w) hu (d + 1) hk1 hr hv hb
      obtain ⟨hy1, hy2⟩ := drop_cons e1
      have hp := kind_plain hu
      simp only [Op.eqFields, hn, ne_eq, not_false_eq_true, if_true, Sem.run_bind, ho, run_part_plain w hp hx1, run_part_plain w hp hy1, Result.andThen_ok, e3]
      rcases e4 with ⟨rfl, rfl⟩ | ⟨rfl, e4⟩
      · simp
      · simp only [Bool.not_true, Bool.false_eq_true, if_false]
        exact ih hk2 e4 (by rw [hx2]; exact hl) (by rw [hy2]; exact e2)
  | @nest f fs fs2 ks2 ks ti i hn hu hi hsz hp hf2 ho _ ih =>
    intro hk hr ha hb
    obtain ⟨k1, k2⟩ := kindsOk_append hk
    have hl2 : (a.take ks2.length).length = ks2.length := kindsOk_length k1
    have hsplit : a = a.take ks2.length ++ a.drop ks2.length := (List.take_append_drop _ _).symm
    rw [hsplit] at hr
    obtain ⟨t, e1, e2⟩ := eqScalars_append hr
    rw [hl2] at e1 e2
    have hfo : P.fieldsOf f.type = fs2 := by unfold Program.fieldsOf; rw [hu]
    have hin : (Op.equalIn (d + 1 + 1) f.type (.agg (xs.extract i (i + ti.size))) (.agg (ys.extract i (i + ti.size)))).run P w = .ok t w := by
      rw [run_equalIn_struct w _ f.type _ _ (by rw [hfo]; exact hu) hp, hfo]
      refine eqFields_ok (μ := μ) d hf2 k1 e1 ?_ ?_
      · rw [List.drop_zero, extract_list, hsz]; exact vrl_take _ ha
      · rw [List.drop_zero, extract_list, hsz]; exact vrl_take _ hb
    simp only [Op.eqFields, hn, ne_eq, not_false_eq_true, if_true, Sem.run_bind, ho, run_part_struct hu hi, Result.andThen_ok, hin]
    rcases e2 with ⟨rfl, rfl⟩ | ⟨rfl, e2⟩
    · simp
    · simp only [Bool.not_true, Bool.false_eq_true, if_false]
      exact ih k2 e2 (by rw [← List.drop_drop]; exact vrl_drop _ ha) (by rw [← List.drop_drop]; exact vrl_drop _ hb)

theorem struct_eqs2 {t : TypeId} {fs : Array Field} {ks : List EK} (hu : P.underlying t = some (.struct fs)) (hp : P.stoodInHeld t = false) (hf : FieldsOk2 P fs.toList ks 0) {a b : List AV} {r : Bool} {xs ys : Array Value} (hk : kindsOk ks a = true)
    (hr : eqScalars a b = some r) (ha : VRL μ a xs.toList) (hb : VRL μ b ys.toList) : (Op.equal t (.agg xs) (.agg ys)).run P w = .ok r w := by
  have hfo : P.fieldsOf t = fs := by unfold Program.fieldsOf; rw [hu]
  have h0 : Op.equal t (.agg xs) (.agg ys) = Op.equalIn (9997 + 1 + 1 + 1) t (.agg xs) (.agg ys) := rfl
  rw [h0, run_equalIn_struct w _ t xs ys (by rw [hfo]; exact hu) hp, hfo]
  exact eqFields2_ok 9997 hf hk hr (by simpa using ha) (by simpa using hb)

theorem keys_flat {t : TypeId} {fs : Array Field} {ks : List EK} (n : Nat) (hu : P.underlying t = some (.struct fs)) (hf : FieldsOk P fs.toList ks 0) {a : List AV} {xs : Array Value} (hk : kindsOk ks a = true) (ha : VRL μ a xs.toList) (em : Bool) :
    (Instr.checkKey em (n + 1 + 1) t (.agg xs)).run P w = .ok () w := by
  rw [Instr.checkKey]
  simp only [Sem.run_bind, run_underlying hu, Result.andThen_ok]
  rw [← Array.forIn_toList]
  replace ha : VRL μ a (xs.toList.drop 0) := by simpa using ha
  clear hu
  generalize fs.toList = l at hf
  generalize (0 : Nat) = i at hf ha
  induction hf generalizing a with
  | nil => simp
  | cons hn hue ho _ ih =>
    cases a with
    | nil => simp [kindsOk] at hk
    | cons x a =>
      simp only [kindsOk] at hk
      obtain ⟨hk1, hk2⟩ := cond_and hk
      generalize hxs : xs.toList.drop _ = xl at ha
      cases ha with | cons hv hl =>
      obtain ⟨hx1, hx2⟩ := drop_cons hxs
      have hp := kind_plain hue
      have := ih hk2 (by rw [hx2]; exact hl)
      simp only [List.forIn_cons, Sem.run_bind, hn, ne_eq, not_false_eq_true, if_true, ho, run_part_plain w hp hx1, Result.andThen_ok, cell_key (w := w) hue hk1 hv, Sem.run_pure]
      exact this

theorem struct_keys2 {t : TypeId} {fs : Array Field} {ks : List EK} (hu : P.underlying t = some (.struct fs)) (hf : FieldsOk2 P fs.toList ks 0) {a : List AV} {xs : Array Value} (hk : kindsOk ks a = true) (ha : VRL μ a xs.toList) (em : Bool) :
    (Instr.checkKey em 10000 t (.agg xs)).run P w = .ok () w := by
  have h0 : Instr.checkKey em 10000 t (.agg xs) = Instr.checkKey em (9997 + 1 + 1 + 1) t (.agg xs) := rfl
  rw [h0, Instr.checkKey]
  simp only [Sem.run_bind, run_underlying hu, Result.andThen_ok]
  rw [← Array.forIn_toList]
  replace ha : VRL μ a (xs.toList.drop 0) := by simpa using ha
  clear hu h0
  generalize fs.toList = l at hf
  generalize (0 : Nat) = i at hf ha
  induction hf generalizing a with
  | nil => simp
  | cons hn hue ho _ ih =>
    cases a with
    | nil => simp [kindsOk] at hk
    | cons x a =>
      simp only [kindsOk] at hk
      obtain ⟨hk1, hk2⟩ := cond_and hk
      generalize hxs : xs.toList.drop _ = xl at ha
      cases ha with | cons hv hl =>
      obtain ⟨hx1, hx2⟩ := drop_cons hxs
      have hp := kind_plain hue
      have := ih hk2 (by rw [hx2]; exact hl)
      simp only [List.forIn_cons, Sem.run_bind, hn, ne_eq, not_false_eq_true, if_true, ho, run_part_plain w hp hx1, Result.andThen_ok, cell_key (w := w) hue hk1 hv, Sem.run_pure]
      exact this
  | @nest f fs fs2 ks2 ks ti i hn hue hi hsz hp hf2 ho _ ih =>
    obtain ⟨k1, k2⟩ := kindsOk_append hk
    have := ih k2 (by rw [← List.drop_drop]; exact vrl_drop _ ha)
    have hin : (Instr.checkKey em (9997 + 1 + 1) f.type (.agg (xs.extract i (i + ti.size)))).run P w = .ok () w :=
      keys_flat 9997 hue hf2 k1 (by rw [extract_list, hsz]; exact vrl_take _ ha) em
    simp only [List.forIn_cons, Sem.run_bind, hn, ne_eq, not_false_eq_true, if_true, ho, run_part_struct hue hi, Result.andThen_ok, hin, Sem.run_pure]
    exact this
end
end Go.Ab
