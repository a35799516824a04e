/- Outcomes that are alike: what holds of the one holds of the other. Calls whose outcomes are merged. '==' and keys of structs and arrays of plain cells. The abstract machine's runs as contracts. Conditions: none. -/
import Derived.Test.YtbclmkfibgmgdaaGreatDoorRdXG
import Derived.Laws.StructEq
import Derived.ChangeKeysEq
import Derived.MapKept
section
namespace Go.Ab

theorem mem_lookup {a b : Nat} : ∀ {q : List (Nat × Nat)}, q.lookup a = some b → (a, b) ∈ q
  | [], h => by cases h
  | (x, y) :: q, h => by
    simp only [List.lookup] at h
    split at h
    · rename_i e
      simp only [Option.some.injEq] at h
      subst h
      have : a = x := by simpa using e
      subst this; exact List.mem_cons_self
    · exact List.mem_cons_of_mem _ (mem_lookup h)
theorem lookup_mem {a b : Nat} : ∀ {q : List (Nat × Nat)}, (a, b) ∈ q → ∃ c, q.lookup a = some c
  | (x, y) :: q, h => by
    simp only [List.lookup]
    split
    · exact ⟨y, rfl⟩
    · rename_i e
      rcases List.mem_cons.1 h with h | h
      · cases h; simp at e
      · exact lookup_mem h

/-- where the one outcome's blocks lie, if those of the other one lie so -/
noncomputable def muOf (n0 : Nat) (q : List (Nat × Nat)) (μ : Mu) : Mu := fun a => if a < n0 then μ a else (q.lookup a).bind μ

section
variable {n0 : Nat} {l : List Nat} {x y : AV × Heap} {q : List (Nat × Nat)} {μ : Mu}

theorem mu_ref (f : IsoF n0 l x y q) {a b : Nat} (h : RefI n0 q a b) : muOf n0 q μ a = μ b := by
  unfold muOf
  rcases h with ⟨h1, rfl⟩ | ⟨h1, _, h3⟩
  · rw [if_pos h1]
  · rw [if_neg (by omega)]
    obtain ⟨c, hc⟩ := lookup_mem h3
    rw [hc]
    have := f.fn a b c h3 (mem_lookup hc)
    subst this; rfl

mutual
theorem VI.rel (f : IsoF n0 l x y q) : ∀ {a b : AV} {v : Value}, VI n0 q a b → VR μ b v → VR (muOf n0 q μ) a v
  | _, _, _, .bool _, .bool b => .bool b
  | _, _, _, .int _ _, .int k n => .int k n
  | _, _, _, .str _, h => by
    obtain ⟨s, rfl, rfl⟩ := str_of h
    exact .str s
  | _, _, _, .ptr r, .ptr e => .ptr ((mu_ref f r).trans e)
  | _, _, _, .nilPtr, .nilPtr => .nilPtr
  | _, _, _, .slice r, .slice e c => .slice ((mu_ref f r).trans e) c
  | _, _, _, .nilSlice, .nilSlice => .nilSlice
  | _, _, _, .map r, .map e => .map ((mu_ref f r).trans e)
  | _, _, _, .nilMap, .nilMap => .nilMap
  | _, _, _, .func a b, .func c d => .func (VIL.rel f a c) (VIL.rel f b d)
  | _, _, _, .nilFunc, .nilFunc => .nilFunc
  | _, _, _, .iface h, .iface v => .iface (VI.rel f h v)
  | _, _, _, .nilIface, .nilIface => .nilIface
  | _, _, _, .agg h, .agg c => .agg (VIL.rel f h c)
  | _, _, _, .tup h, .tup c => .tup (VIL.rel f h c)
theorem VIL.rel (f : IsoF n0 l x y q) : ∀ {a b : List AV} {v : List Value}, VIL n0 q a b → VRL μ b v → VRL (muOf n0 q μ) a v
  | _, _, _, .nil, .nil => .nil
  | _, _, _, .cons h t, .cons a r => .cons (VI.rel f h a) (VIL.rel f t r)
end

theorem VIL.length : ∀ {a b : List AV}, VIL n0 q a b → a.length = b.length
  | _, _, .nil => rfl
  | _, _, .cons _ l => by simp [VIL.length l]

/-! maps -/
theorem lookupE_split {k w : AV} : ∀ {es : List (AV × AV)}, lookupE k es = some (some w) → ∃ A B, es = A ++ (k, w) :: B ∧ (∀ x ∈ A, keyEq k x.1 = some false) ∧ keyEq k k = some true ∧ removeE k es = A ++ B
  | [], h => by simp [lookupE] at h
  | (a, v) :: es, h => by
    simp only [lookupE] at h
    split at h
    · rename_i hk
      simp only [Option.some.injEq] at h
      subst h
      have e := keyEq_true hk
      subst e
      exact ⟨[], es, rfl, by simp, hk, by simp [removeE, isKey, hk]⟩
    · rename_i hk
      obtain ⟨A, B, h1, h2, h3, h4⟩ := lookupE_split h
      refine ⟨(a, v) :: A, B, by rw [h1]; rfl, fun x hx => ?_, h3, by simp only [removeE, isKey, hk, cond_false, h4]; rfl⟩
      rcases List.mem_cons.1 hx with rfl | hx
      · exact hk
      · exact h2 x hx
    · cases h

theorem ER.splitA {μ : Mu} : ∀ {A B : List (AV × AV)} {k w : AV} {l : List MapEntry}, ER μ (A ++ (k, w) :: B) l → ∃ l1 e l2, l = l1 ++ e :: l2 ∧ ER μ A l1 ∧ VR μ k e.key ∧ VR μ w e.val ∧ ER μ B l2
  | [], B, k, w, _, .cons a b c => ⟨[], _, _, rfl, .nil, a, b, c⟩
  | x :: A, B, k, w, _, .cons a b c => by
    obtain ⟨l1, e, l2, rfl, h1, h2, h3, h4⟩ := ER.splitA c
    exact ⟨_ :: l1, e, l2, rfl, .cons a b h1, h2, h3, h4⟩

theorem EI.keys : ∀ {a b : List (AV × AV)}, EI n0 q a b → ∀ x ∈ a, ∃ y ∈ b, y.1 = x.1
  | _, _, .nil, x, hx => by cases hx
  | _, es, .cons (k := k) (w := w) h v t, x, hx => by
    obtain ⟨A, B, e, _, _, hr⟩ := lookupE_split h
    rcases List.mem_cons.1 hx with rfl | hx
    · exact ⟨(k, w), by rw [e]; exact List.mem_append_right _ List.mem_cons_self, rfl⟩
    · obtain ⟨y, hy, hyx⟩ := EI.keys t x hx
      rw [hr] at hy
      refine ⟨y, ?_, hyx⟩
      rw [e]
      rcases List.mem_append.1 hy with hy | hy
      · exact List.mem_append_left _ hy
      · exact List.mem_append_right _ (List.mem_cons_of_mem _ hy)

theorem key_free {μ ν : Mu} : ∀ {k : AV} {v : Value} {r : Bool}, keyEq k k = some r → VR μ k v → VR ν k v := by
  intro k v r hk h
  have hsc : ∀ (a : List AV) (v : List Value) (r : Bool), eqScalars a a = some r → VRL μ a v → VRL ν a v := by
    intro a
    induction a with
    | nil => intro v r _ h; cases h; exact .nil
    | cons x a ih =>
      intro v r he h
      cases h with | cons hx hl =>
      cases x with
      | int k n =>
        simp only [eqScalars, if_true] at he
        cases hi : intEq n n with
        | false => rw [(intEq_iff n n).2 rfl] at hi; cases hi
        | true => rw [hi] at he; cases hx; exact .cons (.int _ _) (ih _ _ he hl)
      | str s =>
        simp only [eqScalars] at he
        cases hi : natsEq s s with
        | false => rw [(natsEq_iff s s).2 rfl] at hi; cases hi
        | true =>
          rw [hi] at he
          obtain ⟨s2, rfl, rfl⟩ := str_of hx
          exact .cons (.str _) (ih _ _ he hl)
      | bool b =>
        simp only [eqScalars] at he
        cases hi : boolEq b b with
        | false => rw [(boolEq_iff b b).2 rfl] at hi; cases hi
        | true => rw [hi] at he; cases hx; exact .cons (.bool _) (ih _ _ he hl)
      | _ => simp [eqScalars] at he
  cases k with
  | str s => obtain ⟨s2, rfl, rfl⟩ := str_of h; exact .str _
  | int k n => cases h; exact .int _ _
  | bool b => cases h; exact .bool _
  | agg a => cases h with | agg h => exact .agg (hsc _ _ _ hk h)
  | _ => simp [keyEq] at hk

theorem EI.rel (f : IsoF n0 l x y q) : ∀ {a b : List (AV × AV)} {es : List MapEntry}, EI n0 q a b → (∃ l, l.Perm es ∧ ER μ b l) → ∃ l, l.Perm es ∧ ER (muOf n0 q μ) a l
  | _, _, es, .nil, ⟨l, h1, h2⟩ => by cases h2; exact ⟨[], h1, .nil⟩
  | _, b, es, .cons (k := k) h v t, ⟨l, h1, h2⟩ => by
    obtain ⟨A, B, e, _, hkk, hr⟩ := lookupE_split h
    rw [e] at h2
    obtain ⟨l1, en, l2, rfl, g1, g2, g3, g4⟩ := ER.splitA h2
    rw [hr] at t
    obtain ⟨l', p1, p2⟩ := EI.rel f t ⟨l1 ++ l2, List.Perm.refl _, g1.append g4⟩
    refine ⟨en :: l', ?_, .cons (key_free hkk g2) (VI.rel f v g3) p2⟩
    exact ((p1.cons en).trans (List.perm_middle.symm)).trans h1

theorem EI.apart : ∀ {a b : List (AV × AV)}, EI n0 q a b → b.Pairwise Apart → a.Pairwise Apart
  | _, _, .nil, _ => .nil
  | _, b, .cons (k := k) h v t, hb => by
    obtain ⟨A, B, e, hA, hkk, hr⟩ := lookupE_split h
    have hkeys := EI.keys t
    rw [hr] at t hkeys
    rw [e] at hb
    have hB := List.pairwise_append.1 hb
    have hcons := List.pairwise_cons.1 hB.2.1
    refine .cons (fun z hz => ?_) (EI.apart t (List.pairwise_append.2 ⟨hB.1, hcons.2, fun u hu w hw => hB.2.2 u hu w (List.mem_cons_of_mem _ hw)⟩))
    obtain ⟨w, hw, hwz⟩ := hkeys z hz
    show keyEq k z.1 = some false
    rw [← hwz]
    rcases List.mem_append.1 hw with hw | hw
    · exact hA w hw
    · exact hcons.1 w hw

theorem OI.rel {E : Env} (f : IsoF n0 l x y q) {p : Pl} {a b : AObj} {ob : Obj} (h : OI n0 q a b) (r : OR' E μ p b ob) : OR' E (muOf n0 q μ) p a ob := by
  cases h with
  | cells h =>
    cases r with
    | cells a b c d e g => exact .cells a (VIL.rel f h b) c d (fun ho => by rw [VIL.length h]; exact e ho) g
  | map h =>
    cases r with
    | map r => exact .map ⟨EI.rel f h r.ex, EI.apart h r.apart, fun z hz => by
        obtain ⟨w, hw, hwz⟩ := EI.keys h z hz
        rw [← hwz]; exact r.self w hw, r.born, r.old⟩
  | def0 => cases r with | deferred r => cases r; exact .deferred .nil
  | def1 => cases r; exact .taken

/-! what was there before, and is as it was -/
def Agree (n0 : Nat) (μ ν : Mu) : Prop := ∀ c, c < n0 → ν c = μ c
def Under (n0 : Nat) (μ : Mu) : Prop := ∀ c p, μ c = some p → c < n0

mutual
theorem VR.swap {μ0 μ ν : Mu} (hu : Under n0 μ0) (ha : Agree n0 μ ν) : ∀ {a : AV} {v0 v : Value}, VR μ0 a v0 → VR μ a v → VR ν a v
  | _, _, _, .bool _, .bool b => .bool b
  | _, _, _, .int _ _, .int k n => .int k n
  | _, _, _, .str _, h => by
    obtain ⟨s, rfl, e⟩ := str_of h
    rw [e]; exact .str s
  | _, _, _, .ptr e0, .ptr e => .ptr ((ha _ (hu _ _ e0)).trans e)
  | _, _, _, .nilPtr, .nilPtr => .nilPtr
  | _, _, _, .slice e0 _, .slice e c => .slice ((ha _ (hu _ _ e0)).trans e) c
  | _, _, _, .nilSlice, .nilSlice => .nilSlice
  | _, _, _, .map e0, .map e => .map ((ha _ (hu _ _ e0)).trans e)
  | _, _, _, .nilMap, .nilMap => .nilMap
  | _, _, _, .func a b, .func c d => .func (VRL.swap hu ha a c) (VRL.swap hu ha b d)
  | _, _, _, .yld e0, .yld e => .yld ((ha _ (hu _ _ e0)).trans e)
  | _, _, _, .nilFunc, .nilFunc => .nilFunc
  | _, _, _, .iface h, .iface v => .iface (VR.swap hu ha h v)
  | _, _, _, .nilIface, .nilIface => .nilIface
  | _, _, _, .agg h, .agg c => .agg (VRL.swap hu ha h c)
  | _, _, _, .tup h, .tup c => .tup (VRL.swap hu ha h c)
  | _, _, _, .empty, .empty => .empty
  | _, _, _, .junk _, _ => .junk _
theorem VRL.swap {μ0 μ ν : Mu} (hu : Under n0 μ0) (ha : Agree n0 μ ν) : ∀ {a : List AV} {v0 v : List Value}, VRL μ0 a v0 → VRL μ a v → VRL ν a v
  | _, _, _, .nil, .nil => .nil
  | _, _, _, .cons h t, .cons a r => .cons (VR.swap hu ha h a) (VRL.swap hu ha t r)
end

theorem ER.swap {μ0 μ ν : Mu} (hu : Under n0 μ0) (ha : Agree n0 μ ν) : ∀ {a : List (AV × AV)} {v0 v : List MapEntry}, ER μ0 a v0 → ER μ a v → ER ν a v
  | _, _, _, .nil, .nil => .nil
  | _, _, _, .cons a b c, .cons a' b' c' => .cons (VR.swap hu ha a a') (VR.swap hu ha b b') (ER.swap hu ha c c')

theorem DR.swap {μ0 μ ν : Mu} (hu : Under n0 μ0) (ha : Agree n0 μ ν) {a : ADef} {v0 v : Deferred} (h0 : DR μ0 a v0) (h : DR μ a v) : DR ν a v := by
  cases h with
  | coll e => cases h0 with | coll e0 => exact .coll ((ha _ (hu _ _ e0)).trans e)
  | call v => cases h0 with | call v0 => exact .call (VRL.swap hu ha v0 v)
theorem DRL.swap {μ0 μ ν : Mu} (hu : Under n0 μ0) (ha : Agree n0 μ ν) : ∀ {a : List ADef} {v0 v : List Deferred}, DRL μ0 a v0 → DRL μ a v → DRL ν a v
  | _, _, _, .nil, .nil => .nil
  | _, _, _, .cons h t, .cons a r => .cons (DR.swap hu ha h a) (DRL.swap hu ha t r)

theorem OR'.swap {E : Env} {μ0 μ ν : Mu} (hu : Under n0 μ0) (ha : Agree n0 μ ν) {p0 p : Pl} {a : AObj} {ob0 ob : Obj} (h0 : OR' E μ0 p0 a ob0) (h : OR' E μ p a ob) : OR' E ν p a ob := by
  cases h with
  | cells a b c d e g => cases h0 with | cells _ b0 _ _ _ _ => exact .cells a (VRL.swap hu ha b0 b) c d e g
  | map r =>
    cases h0 with
    | map r0 =>
      obtain ⟨l0, _, e0⟩ := r0.ex
      obtain ⟨l, hp, e⟩ := r.ex
      exact .map ⟨⟨l, hp, ER.swap hu ha e0 e⟩, r.apart, r.self, r.born, r.old⟩
  | str z => exact .str z
  | noIter z => exact .noIter z
  | iter z e => cases h0 with | iter _ e0 => exact .iter z ((ha _ (hu _ _ e0)).trans e)
  | loop a b c k =>
    rename_i st pend fn tm nt params assign body d pd tmps
    generalize hps : params.toList = pl at h0
    cases h0 with
    | loop a0 b0 c0 k0 =>
      rw [← hps]
      exact .loop ⟨fun t => VR.swap hu ha (a0.get t) (a.get t), a.has⟩ b ((ha _ (hu _ _ c0)).trans c) k
  | deferred r => cases h0 with | deferred r0 => exact .deferred (DRL.swap hu ha r0 r)
  | taken => exact .taken
  | ro a b => cases h0 with | ro _ b0 => exact .ro a (VRL.swap hu ha b0 b)

end
end Go.Ab
end
section
namespace Go.Ab

/-! the merged heap -/
section
variable {h : Heap}
theorem takeOld_ne : ∀ {l : List Nat} {t : T (Option AObj)} {c : Nat}, c ∉ l → (takeOld h l t).get none c = t.get none c
  | [], t, c, _ => rfl
  | a :: l, t, c, hc => by
    rw [List.mem_cons, not_or] at hc
    simp only [takeOld]
    rw [takeOld_ne hc.2, T.get_set_ne _ _ _ _ _ hc.1]
theorem takeOld_get : ∀ {l : List Nat} {t : T (Option AObj)} {c : Nat} {o : AObj}, (takeOld h l t).get none c = some o → (h.get c = some o ∧ c ∈ l) ∨ (c ∉ l ∧ t.get none c = some o)
  | [], t, c, o, hc => .inr ⟨by simp, hc⟩
  | a :: l, t, c, o, hc => by
    simp only [takeOld] at hc
    rcases takeOld_get hc with ⟨h1, h2⟩ | ⟨h1, h2⟩
    · exact .inl ⟨h1, List.mem_cons_of_mem _ h2⟩
    · by_cases e : c = a
      · subst e
        rw [T.get_set_eq] at h2
        split at h2
        · exact .inl ⟨h2, List.mem_cons_self⟩
        · cases h2
      · rw [T.get_set_ne _ _ _ _ _ e] at h2
        exact .inr ⟨fun hh => (List.mem_cons.1 hh).elim e h1, h2⟩
theorem takeOld_has : ∀ {l : List Nat} {t : T (Option AObj)} {c : Nat}, (takeOld h l t).has c = t.has c
  | [], _, _ => rfl
  | a :: l, t, c => by simp only [takeOld]; rw [takeOld_has, T.has_set]
theorem takeNew_eq : ∀ {p : List (Nat × Nat)} {t : T (Option AObj)}, takeNew h p t = takeOld h (firsts p) t
  | [], _ => rfl
  | a :: p, t => by simp only [takeNew, firsts, takeOld]; exact takeNew_eq
end

noncomputable def zOf (h0 : Heap) (x : AV × Heap) (l : List Nat) (p : List (Nat × Nat)) : AV × Heap := (x.1, ⟨takeNew x.2 p (takeOld x.2 l h0.t), x.2.next, l ++ (firsts p ++ h0.log)⟩)

section
variable {h0 : Heap} {x : AV × Heap} {l : List Nat} {p : List (Nat × Nat)}
theorem z_get {c : Nat} {o : AObj} (h : (zOf h0 x l p).2.get c = some o) : (x.2.get c = some o ∧ (c ∈ firsts p ∨ c ∈ l)) ∨ (c ∉ firsts p ∧ c ∉ l ∧ h0.get c = some o) := by
  have h : (takeNew x.2 p (takeOld x.2 l h0.t)).get none c = some o := h
  rw [takeNew_eq] at h
  rcases takeOld_get h with ⟨h1, h2⟩ | ⟨h1, h2⟩
  · exact .inl ⟨h1, .inl h2⟩
  · rcases takeOld_get h2 with ⟨h3, h4⟩ | ⟨h3, h4⟩
    · exact .inl ⟨h3, .inr h4⟩
    · exact .inr ⟨h1, h3, h4⟩
theorem z_same {c : Nat} (h1 : c ∉ firsts p) (h2 : c ∉ l) : (zOf h0 x l p).2.get c = h0.get c := by
  show (takeNew x.2 p (takeOld x.2 l h0.t)).get none c = h0.t.get none c
  rw [takeNew_eq, takeOld_ne h1, takeOld_ne h2]
theorem z_has (c : Nat) : (zOf h0 x l p).2.t.has c = h0.t.has c := by
  show (takeNew x.2 p (takeOld x.2 l h0.t)).has c = h0.t.has c
  rw [takeNew_eq, takeOld_has, takeOld_has]
end

/-! the numbers of the old blocks that are touched -/
theorem oldIds_ok {n0 a : Nat} : ∀ {l : List Nat} {t : T (Option Nat)}, a ∈ l → a < n0 → a ∈ oldIds n0 l t ∨ t.get none a ≠ none
  | x :: l, t, ha, hlt => by
    simp only [oldIds]
    have ih := fun (t : T (Option Nat)) (h : a ∈ l) => oldIds_ok (l := l) (t := t) h hlt
    cases hx : Nat.blt x n0 with
    | false =>
      rcases List.mem_cons.1 ha with rfl | ha
      · rw [(blt_iff _ _).2 hlt] at hx; cases hx
      · exact ih t ha
    | true =>
      simp only [cond_true]
      split
      · rename_i v hv
        rcases List.mem_cons.1 ha with rfl | ha
        · exact .inr (by rw [hv]; simp)
        · exact ih t ha
      · rename_i hv
        rcases List.mem_cons.1 ha with rfl | ha
        · exact .inl List.mem_cons_self
        · rcases ih (t.set x (some 0)) ha with h1 | h1
          · exact .inl (List.mem_cons_of_mem _ h1)
          · rcases get_set_or none t x a (some 0) with h2 | ⟨h2, _⟩ | h2
            · rw [h2] at h1; exact .inr h1
            · subst h2; exact .inl List.mem_cons_self
            · exact absurd h2 h1
theorem oldIds_lt {n0 a : Nat} : ∀ {l : List Nat} {t : T (Option Nat)}, a ∈ oldIds n0 l t → a < n0
  | [], t, h => by cases h
  | x :: l, t, h => by
    simp only [oldIds] at h
    cases hx : Nat.blt x n0 with
    | false => rw [hx] at h; exact oldIds_lt (l := l) h
    | true =>
      rw [hx] at h
      simp only [cond_true] at h
      split at h
      · exact oldIds_lt (l := l) h
      · rcases List.mem_cons.1 h with rfl | h
        · exact (blt_iff _ _).1 hx
        · exact oldIds_lt (l := l) h
theorem allLogs_mem {y : AV × Heap} {a : Nat} : ∀ {L : List (AV × Heap)}, y ∈ L → a ∈ y.2.log → a ∈ allLogs L
  | x :: L, hy, ha => by
    simp only [allLogs]
    rcases List.mem_cons.1 hy with rfl | hy
    · exact List.mem_append_left _ ha
    · exact List.mem_append_right _ (allLogs_mem hy ha)

/-! the check of all outcomes -/
theorem firsts_mem {a : Nat} : ∀ {p : List (Nat × Nat)}, a ∈ firsts p → ∃ b, (a, b) ∈ p
  | (x, y) :: p, h => by
    simp only [firsts] at h
    rcases List.mem_cons.1 h with rfl | h
    · exact ⟨y, List.mem_cons_self⟩
    · obtain ⟨b, hb⟩ := firsts_mem h; exact ⟨b, List.mem_cons_of_mem _ hb⟩
theorem tagged_ok {a : Nat} : ∀ {q : List (Nat × Nat)} {t : T (Option Nat)}, (tagged q t).get none a ≠ none → a ∈ firsts q ∨ t.get none a ≠ none
  | [], t, h => .inr h
  | x :: q, t, h => by
    simp only [tagged] at h
    rcases tagged_ok h with h1 | h1
    · exact .inl (List.mem_cons_of_mem _ h1)
    · rcases get_set_or none t x.1 a (some 0) with h2 | ⟨h2, _⟩ | h2
      · rw [h2] at h1; exact .inr h1
      · subst h2; exact .inl List.mem_cons_self
      · exact absurd h2 h1
theorem covers_ok {t : T (Option Nat)} : ∀ {p : List (Nat × Nat)}, covers t p = true → ∀ a ∈ firsts p, t.get none a ≠ none
  | [], _, a, ha => by cases ha
  | x :: p, h, a, ha => by
    simp only [covers] at h
    split at h
    · rename_i v hv
      rcases List.mem_cons.1 ha with rfl | ha
      · rw [hv]; simp
      · exact covers_ok h a ha
    · cases h

def Alike (n0 : Nat) (l : List Nat) (x y : AV × Heap) (p : List (Nat × Nat)) : Prop := ∃ q, IsoF n0 l x y q ∧ ∀ a ∈ firsts p, a ∈ firsts q

theorem alike_some {n0 : Nat} {l : List Nat} {x : AV × Heap} : ∀ {ys : List (AV × Heap)} {p p2 : List (Nat × Nat)}, alike n0 l x ys (some p) = some p2 → p2 = p ∧ ∀ y ∈ ys, Alike n0 l x y p
  | [], p, p2, h => by simp only [alike, Option.some.injEq] at h; exact ⟨h.symm, fun y hy => by cases hy⟩
  | y :: ys, p, p2, h => by
    simp only [alike] at h
    split at h
    · rename_i q hq
      obtain ⟨h1, h2⟩ := bif_some h
      obtain ⟨e, h3⟩ := alike_some h2
      refine ⟨e, fun z hz => ?_⟩
      rcases List.mem_cons.1 hz with rfl | hz
      · refine ⟨q, isoOut_ok hq, fun a ha => ?_⟩
        rcases tagged_ok (covers_ok h1 a ha) with h4 | h4
        · exact h4
        · rw [T.get_full] at h4; exact absurd rfl h4
      · exact h3 z hz
    · cases h
theorem alike_none {n0 : Nat} {l : List Nat} {x : AV × Heap} {ys : List (AV × Heap)} {p : List (Nat × Nat)} (h : alike n0 l x ys none = some p) : ∀ y ∈ ys, Alike n0 l x y p := by
  cases ys with
  | nil => cases h
  | cons y ys =>
    simp only [alike] at h
    split at h
    · rename_i q hq
      obtain ⟨rfl, h3⟩ := alike_some h
      intro z hz
      rcases List.mem_cons.1 hz with rfl | hz
      · exact ⟨_, isoOut_ok hq, fun a ha => ha⟩
      · exact h3 z hz
    · cases h

theorem leaves_ok {β : Type} {Φ : β → Prop} : ∀ {d : Nat} {c : CT β} {L : List β}, leaves d c = some L → Leads c Φ → ∃ y ∈ L, Φ y
  | d, .ret b, L, h, hl => by
    have : some [b] = some L := by cases d <;> exact h
    simp only [Option.some.injEq] at this
    subst this
    exact ⟨b, by simp, hl.of_ret⟩
  | d, .bad, L, h, hl => by
    have : (none : Option (List β)) = some L := by cases d <;> exact h
    cases this
  | 0, .pick n k, L, h, hl => by simp [leaves] at h
  | d + 1, .pick n k, L, h, hl => by
    cases hl with | pick i hi hl =>
    simp only [leaves] at h
    have key : ∀ (r : List Nat) (L : List β), r.foldr (fun i acc => match leaves d (k i), acc with | some l, some r => some (l ++ r) | _, _ => none) (some []) = some L → i ∈ r →
        ∃ l, leaves d (k i) = some l ∧ ∀ y ∈ l, y ∈ L := by
      intro r
      induction r with
      | nil => intro L _ h; cases h
      | cons j r ih =>
        intro L h hm
        simp only [List.foldr_cons] at h
        split at h
        · rename_i l1 r1 h1 h2
          simp only [Option.some.injEq] at h
          subst h
          rcases List.mem_cons.1 hm with rfl | hm
          · exact ⟨l1, h1, fun y hy => List.mem_append_left _ hy⟩
          · obtain ⟨l2, g1, g2⟩ := ih r1 h2 hm
            exact ⟨l2, g1, fun y hy => List.mem_append_right _ (g2 y hy)⟩
        · cases h
    obtain ⟨l1, g1, g2⟩ := key _ L h (List.mem_range.2 hi)
    obtain ⟨y, hy, hp⟩ := leaves_ok g1 hl
    exact ⟨y, g2 y hy, hp⟩

section
variable {E : Env} {O : Own} {P : Program} {f : FuncId} {args' : Array Value} {kd : CallKind} {cs : List Frame} {μ : Mu} {w : World}

theorem relog_ok {t : T (Option AObj)} {n : Nat} {l : List Nat} {x : AV × Heap} (h : CallR E O P f args' kd cs μ ⟨t, n, []⟩ w x) : Leads (relog ⟨t, n, l⟩ x) (CallR E O P f args' kd cs μ ⟨t, n, l⟩ w) := by
  obtain ⟨v, ⟨t2, n2, l2⟩⟩ := x
  obtain ⟨h0, μ', w', v', a1, a2, a3, a4, a5, a6⟩ := h
  refine .ret ⟨h0, μ', w', v', ⟨a1.le, a1.keep, ⟨a1.grow.next, fun b hb => List.mem_append_right _ hb, fun b hb => a1.grow.same b fun hh => hb (List.mem_append_left _ hh), a1.grow.none, a1.grow.has⟩⟩, a2, a3, a4, a5.same fun _ => rfl, a6⟩

theorem merged {h0 : Heap} {x y : AV × Heap} {rest : List (AV × Heap)} {l : List Nat} {p : List (Nat × Nat)} (hr : HRel E O μ h0 w.heap) (hb : Bound μ h0) (hl : l = oldIds h0.next (allLogs (x :: rest)) (.full none 17))
    (hp : ∀ z ∈ rest, Alike h0.next l x z p) (hy : y ∈ x :: rest) (h : CallR E O P f args' kd cs μ ⟨h0.t, h0.next, []⟩ w y) : CallR E O P f args' kd cs μ h0 w (zOf h0 x l p) := by
  obtain ⟨g0, μ', w', v', a1, a2, a3, a4, a5, a6⟩ := h
  have hz : ∀ c, h0.next ≤ c → h0.get c = none := by
    intro c hc
    cases hg : h0.get c with
    | none => rfl
    | some o => obtain ⟨p, _, hp, _⟩ := hr.obj c o hg; rw [hb c hc] at hp; cases hp
  have hlog : ∀ c, c < h0.next → c ∉ l → y.2.get c = h0.get c := by
    intro c hc hcl
    refine a1.grow.same c fun hh => hcl ?_
    rw [hl]
    rcases oldIds_ok (t := .full none 17) (allLogs_mem hy hh) hc with h1 | h1
    · exact h1
    · rw [T.get_full] at h1; exact absurd rfl h1
  have hlt : ∀ c o, h0.get c = some o → c < h0.next := fun c o hc => by
    rcases Nat.lt_or_ge c h0.next with h1 | h1
    · exact h1
    · rw [hz c h1] at hc; cases hc
  rcases List.mem_cons.1 hy with rfl | hyr
  · -- the first one
    refine ⟨g0, μ', w', v', ⟨a1.le, a1.keep, ⟨a1.grow.next, fun b hb => List.mem_append_right _ (List.mem_append_right _ hb), fun b hbn => ?_, fun b hbn hh => ?_, fun b => z_has b⟩⟩, a2, a3, a4, a5.less fun c o hc => ?_, a6⟩
    · have hbn : b ∉ l ++ (firsts p ++ h0.log) := hbn
      rw [List.mem_append, not_or, List.mem_append, not_or] at hbn
      exact z_same hbn.2.1 hbn.1
    · cases hg : (zOf h0 y l p).2.get b with
      | none => rfl
      | some o =>
        rcases z_get hg with ⟨h1, _⟩ | ⟨_, _, h1⟩
        · rw [a1.grow.none b hbn hh] at h1; cases h1
        · rw [hh] at h1; cases h1
    · rcases z_get hc with ⟨h1, _⟩ | ⟨_, h2, h1⟩
      · exact h1
      · rw [hlog c (hlt c o h1) h2]; exact h1
  · -- another one
    obtain ⟨q, fq, hfq⟩ := hp y hyr
    have hu : Under h0.next μ := fun c p hc => by
      rcases Nat.lt_or_ge c h0.next with h1 | h1
      · exact h1
      · rw [hb c h1] at hc; cases hc
    have hag : Agree h0.next μ' (muOf h0.next q μ') := fun c hc => by unfold muOf; rw [if_pos hc]
    have hll : ∀ c, c ∈ l → c < h0.next := fun c hc => by rw [hl] at hc; exact oldIds_lt hc
    -- each block of the merged heap stands for one of that outcome
    have hat : ∀ c o, (zOf h0 x l p).2.get c = some o → (∃ c2 o2, RefI h0.next q c c2 ∧ y.2.get c2 = some o2 ∧ OI h0.next q o o2) ∨ (c < h0.next ∧ c ∉ l ∧ h0.get c = some o ∧ y.2.get c = some o) := by
      intro c o hc
      rcases z_get hc with ⟨h1, h2⟩ | ⟨_, h2, h1⟩
      · rcases h2 with h2 | h2
        · obtain ⟨b, hbq⟩ := firsts_mem (hfq c h2)
          obtain ⟨u, v, e1, e2, e3⟩ := fq.obj _ hbq
          simp only at e1 e2
          rw [h1] at e1; cases e1
          exact .inl ⟨b, v, .inr ⟨(fq.low c b hbq).1, (fq.low c b hbq).2.1, hbq⟩, e2, e3⟩
        · rcases fq.old c h2 (hll c h2) with ⟨e1, _⟩ | ⟨u, v, e1, e2, e3⟩
          · rw [h1] at e1; cases e1
          · simp only at e1 e2
            rw [h1] at e1; cases e1
            exact .inl ⟨c, v, .inl ⟨hll c h2, rfl⟩, e2, e3⟩
      · exact .inr ⟨hlt c o h1, h2, h1, by rw [hlog c (hlt c o h1) h2]; exact h1⟩
    have href : ∀ c o, (zOf h0 x l p).2.get c = some o → ∃ c2 o2, RefI h0.next q c c2 ∧ y.2.get c2 = some o2 ∧ (o.owned = true → o2.owned = true) := by
      intro c o hc
      rcases hat c o hc with ⟨c2, o2, h1, h2, h3⟩ | ⟨h1, _, _, h2⟩
      · exact ⟨c2, o2, h1, h2, fun _ => by cases h3 <;> rfl⟩
      · exact ⟨c, o, .inl ⟨h1, rfl⟩, h2, id⟩
    have hrefinj : ∀ c d c2, RefI h0.next q c c2 → RefI h0.next q d c2 → c = d := by
      intro c d c2 h1 h2
      rcases h1 with ⟨h1, rfl⟩ | ⟨h1, h1', h1''⟩ <;> rcases h2 with ⟨h2, h2'⟩ | ⟨h2, h2', h2''⟩
      · exact h2'.symm
      · omega
      · omega
      · exact fq.inj _ _ _ h1'' h2''
    have hrel : HRel E O (muOf h0.next q μ') (zOf h0 x l p).2 w'.heap := by
      refine ⟨fun c o hc => ?_, fun c d o o2 pc pd hc hd how hpc hpd e => ?_, fun c o pc hc how hpc => ?_, fun c pc hpc => ?_, a5.up, fun c m mods seen pc pm es mo hc hm hpc hpm => ?_, fun c o pc hc hpc => ?_, a5.nro⟩
      · rcases hat c o hc with ⟨c2, o2, h1, h2, h3⟩ | ⟨h1, _, h2, h3⟩
        · obtain ⟨pp, ob, e1, e2, e3⟩ := a5.obj c2 o2 h2
          exact ⟨pp, ob, (mu_ref fq h1).trans e1, e2, h3.rel fq e3⟩
        · obtain ⟨pp, ob, e1, e2, e3⟩ := a5.obj c o h3
          obtain ⟨p0, ob0, f1, f2, f3⟩ := hr.obj c o h2
          exact ⟨pp, ob, (hag c h1).trans e1, e2, OR'.swap hu hag f3 e3⟩
      · obtain ⟨c2, oc, h1, h2, w1⟩ := href c o hc
        obtain ⟨d2, od, h3, h4, w2⟩ := href d o2 hd
        rw [mu_ref fq h1] at hpc
        rw [mu_ref fq h3] at hpd
        have := a5.inj _ _ _ _ _ _ h2 h4 (how.imp w1 w2) hpc hpd e
        subst this
        exact hrefinj _ _ _ h1 h3
      · obtain ⟨c2, oc, h1, h2, w1⟩ := href c o hc
        rw [mu_ref fq h1] at hpc
        exact a5.own _ _ _ h2 (w1 how) hpc
      · unfold muOf at hpc
        split at hpc
        · exact a5.size _ _ hpc
        · cases hq : q.lookup c with
          | none => rw [hq] at hpc; cases hpc
          | some b => rw [hq] at hpc; exact a5.size _ _ hpc
      · rcases hat c _ hc with ⟨c2, o2, h1, h2, h3⟩ | ⟨h1, _, h2, h3⟩
        · cases h3
        · obtain ⟨p0, ob0, f1, f2, f3⟩ := hr.obj c _ h2
          have hm2 : ∃ es2, y.2.get m = some (.map es2 mo) ∧ m < h0.next := by
            cases f3 with | iter _ e0 =>
            have hml := hu _ _ e0
            rcases hat m _ hm with ⟨m2, o2, g1, g2, g3⟩ | ⟨_, _, _, g3⟩
            · rcases g1 with ⟨_, rfl⟩ | ⟨g1, _, _⟩
              · cases g3 with | map g3 => exact ⟨_, g2, hml⟩
              · omega
            · exact ⟨es, g3, hml⟩
          obtain ⟨es2, g1, g2⟩ := hm2
          rw [hag c h1] at hpc
          rw [hag m g2] at hpm
          have hi := a5.iter c m mods seen pc pm es2 mo h3 g1 hpc hpm
          refine ⟨hi.1, fun e es' clock since sb stepped k1 k2 => ?_⟩
          obtain ⟨b1, b2, L, l1, l2, l3, l4⟩ := hi.2 e es' clock since sb stepped k1 k2
          refine ⟨b1, b2, L, l1, l2, ?_, l4⟩
          have key : ∀ (s : List AV) (L : List Value), (∀ k ∈ s, ∃ r, keyEq k k = some r) → VRL μ' s L → VRL (muOf h0.next q μ') s L := by
            intro s
            induction s with
            | nil => intro L _ h; cases h; exact .nil
            | cons a s ih =>
              intro L hk h
              cases h with | cons h1 h2 =>
              obtain ⟨r, hr⟩ := hk a List.mem_cons_self
              exact .cons (key_free hr h1) (ih _ (fun k hk2 => hk k (List.mem_cons_of_mem _ hk2)) h2)
          exact key _ _ l4 l3
      · rcases hat c _ hc with ⟨c2, o2, h1, h2, h3⟩ | ⟨h1, _, h2, h3⟩
        · cases h3
        · rw [hag c h1] at hpc
          exact a5.ro c o pc h3 hpc
    refine ⟨g0, muOf h0.next q μ', w', v', ⟨fun c pc hc => ?_, fun c hc => ?_, ⟨fq.next, fun b hb => List.mem_append_right _ (List.mem_append_right _ hb), fun b hbn => ?_, fun b hbn hh => ?_, fun b => z_has b⟩⟩, fun c hc => ?_, fq.val.rel fq a3, a4, hrel, a6⟩
    · rw [hag c (hu c pc hc)]; exact a1.le c pc hc
    · rw [hag c hc]; exact a1.keep c hc
    · have hbn : b ∉ l ++ (firsts p ++ h0.log) := hbn
      rw [List.mem_append, not_or, List.mem_append, not_or] at hbn
      exact z_same hbn.2.1 hbn.1
    · cases hg : (zOf h0 x l p).2.get b with
      | none => rfl
      | some o =>
        rcases hat b o hg with ⟨c2, o2, h1, h2, _⟩ | ⟨_, _, h1, _⟩
        · rcases h1 with ⟨_, rfl⟩ | ⟨h1, _, _⟩
          · rw [a1.grow.none b hbn hh] at h2; cases h2
          · omega
        · rw [hh] at h1; cases h1
    · have hc : x.2.next ≤ c := hc
      unfold muOf
      rw [if_neg (by have := fq.next; omega)]
      cases hq : q.lookup c with
      | none => rfl
      | some b => have := (fq.low c b (mem_lookup hq)).2.2; omega

end

/-- EVERY CALL. -/
theorem call_ok {E : Env} {P : Program} (ok : EnvOk E P) {O : Own} {rec : Rec} (hrec : RecOk E O P rec) : CallOkN E O P rec := by
  intro f args args' kd cs μ h w ha r hb hq
  unfold callN
  cases E.fork f with
  | false => exact enter_ok ok hrec ha r hb hq
  | true =>
    obtain ⟨t, n, l⟩ := h
    show Leads (mergeC ⟨t, n, l⟩ (enterA rec f args ⟨t, n, []⟩ (E.ft.get none f))) _
    have hL : Leads (enterA rec f args ⟨t, n, []⟩ (E.ft.get none f)) (CallR E O P f args' kd cs μ ⟨t, n, []⟩ w) := enter_ok ok hrec ha (r.same fun _ => rfl) hb hq
    unfold mergeC
    split
    · rename_i x hx
      rw [hx] at hL
      exact relog_ok hL.of_ret
    · exact .bad
    · rename_i m k hx
      rw [hx] at hL
      cases hlv : leaves 12 (.pick m k) with
      | none => exact .bad
      | some L =>
        obtain ⟨y, hy, hp⟩ := leaves_ok hlv hL
        cases L with
        | nil => cases hy
        | cons x rest =>
          simp only [mergeL, mergeO]
          cases hal : alike n (oldIds n (allLogs (x :: rest)) (.full none 17)) x rest none with
          | none => exact .bad
          | some p =>
            simp only [mergeX]
            exact .ret (merged (h0 := ⟨t, n, l⟩) r hb rfl (alike_none hal) hy hp)

/-- EVERY RUN. -/
theorem run_ok {E : Env} {P : Program} (ok : EnvOk E P) (hfol : P.follows .rangeFuncRecover = true) (hs : SumOk E P) (n d : Nat) : ∀ O, RecOk E O P (runFr E n d) := by
  induction d with
  | zero => exact fun _ _ _ _ _ _ _ _ _ _ _ _ _ => .bad
  | succ d ih =>
    intro O fc b td tm ds h μ a w cs ht s
    rw [runFr_succ]
    exact loopF_ok ok hfol ((call_ok ok (ih O)).call hs) (call_ok ok (ih O)) (round_ok (ih O)) (draw_ok ok hfol (fun O => (call_ok ok (ih O)).call hs) (fun O => round_ok (ih O))) n td tm ds h μ a w ht s

end Go.Ab
end
section
namespace Go.Ab

def EK.desc : EK → TypeDesc
  | .i k => .int k
  | .s => .string
  | .b => .bool

section
variable {P : Program} {w : World} {μ : Mu}

theorem kind_plain {e : TypeId} {k : EK} (h : P.underlying e = some k.desc) : P.plainKey e = true := by
  unfold Program.plainKey; rw [h]; cases k <;> rfl

/-- one cell beside one cell -/
theorem cell_eq {e : TypeId} {k : EK} (h : P.underlying e = some k.desc) {x : AV} {a b : List AV} {r : Bool} {v : Value} {ys : List Value} (d : Nat) (hx : kindOk k x = true) (hr : eqScalars (x :: a) b = some r) (hv : VR μ x v) (hb : VRL μ b ys) :
    ∃ u b' ys', ys = u :: ys' ∧ VRL μ b' ys' ∧ ((∃ t, (Op.equalIn (d + 1) e v u).run P w = .ok t w ∧ ((t = false ∧ r = false) ∨ (t = true ∧ eqScalars a b' = some r)))) := by
  cases k with
  | i k =>
    cases x <;> simp [kindOk] at hx
    rename_i l m
    subst hx
    cases hv
    cases b with
    | nil => simp [eqScalars] at hr
    | cons y b =>
      cases y <;> simp only [eqScalars] at hr <;> try (cases hr; done)
      rename_i l n
      split at hr
      · rename_i hk
        subst hk
        cases hb with | cons h1 h2 =>
        cases h1
        refine ⟨_, b, _, rfl, h2, m == n, run_equalIn_int w d e k k m n h, ?_⟩
        rw [intEq_eq] at hr
        cases hmn : m == n with
        | false => rw [hmn] at hr; simp at hr; exact .inl ⟨rfl, hr⟩
        | true => rw [hmn] at hr; exact .inr ⟨rfl, hr⟩
      · cases hr
  | s =>
    cases x <;> simp [kindOk] at hx
    obtain ⟨s1, rfl, rfl⟩ := str_of hv
    cases b with
    | nil => simp [eqScalars] at hr
    | cons y b =>
      cases y <;> simp only [eqScalars] at hr <;> try (cases hr; done)
      cases hb with | cons h1 h2 =>
      obtain ⟨s2, rfl, rfl⟩ := str_of h1
      refine ⟨_, b, _, rfl, h2, s1.toList == s2.toList, run_equalIn_string w d e s1 s2 h, ?_⟩
      rw [natsEq_bytes] at hr
      cases hmn : s1.toList == s2.toList with
      | false => rw [hmn] at hr; simp at hr; exact .inl ⟨rfl, hr⟩
      | true => rw [hmn] at hr; exact .inr ⟨rfl, hr⟩
  | b =>
    cases x <;> simp [kindOk] at hx
    rename_i m
    cases hv
    cases b with
    | nil => simp [eqScalars] at hr
    | cons y b =>
      cases y <;> simp only [eqScalars] at hr <;> try (cases hr; done)
      rename_i n
      cases hb with | cons h1 h2 =>
      cases h1
      refine ⟨_, b, _, rfl, h2, m == n, run_equalIn_bool w d e m n h, ?_⟩
      rw [boolEq_eq] at hr
      cases hmn : m == n with
      | false => rw [hmn] at hr; simp at hr; exact .inl ⟨rfl, hr⟩
      | true => rw [hmn] at hr; exact .inr ⟨rfl, hr⟩

theorem drop_cons {xs : Array Value} {i : Nat} {v : Value} {l : List Value} (h : xs.toList.drop i = v :: l) : xs[i]? = some v ∧ xs.toList.drop (i + 1) = l := by
  constructor
  · have h0 := congrArg (·[0]?) h
    simpa using h0
  · rw [← List.drop_drop, h]; rfl

inductive FieldsOk (P : Program) : List Field → List EK → Nat → Prop
  | nil {i : Nat} : FieldsOk P [] [] i
  | cons {f : Field} {fs : List Field} {k : EK} {ks : List EK} {i : Nat} : f.name ≠ "_" → P.underlying f.type = some k.desc → f.offset = i → FieldsOk P fs ks (i + 1) → FieldsOk P (f :: fs) (k :: ks) i

theorem eqFields_ok (d : Nat) {xs ys : Array Value} : ∀ {fs : List Field} {ks : List EK} {i : Nat} {a b : List AV} {r : Bool}, FieldsOk P fs ks i → kindsOk ks a = true → eqScalars a b = some r → VRL μ a (xs.toList.drop i) → VRL μ b (ys.toList.drop i) →
    (Op.eqFields (d + 1) xs ys fs).run P w = .ok r w := by
  intro fs ks i a b r hf
  induction hf generalizing a b with
  | nil =>
    intro hk hr _ _
    cases a with
    | cons x a => simp [kindsOk] at hk
    | nil =>
      cases b with
      | nil => simp only [eqScalars, Option.some.injEq] at hr; subst hr; simp [Op.eqFields]
      | cons y b => simp [eqScalars] at hr
  | cons hn hu ho _ ih =>
    intro hk hr ha hb
    cases a with
    | nil => simp [kindsOk] at hk
    | cons x a =>
      simp only [kindsOk] at hk
      obtain ⟨hk1, hk2⟩ := cond_and hk
      generalize hxs : xs.toList.drop _ = xl at ha
      cases ha with | cons hv hl =>
      obtain ⟨hx1, hx2⟩ := drop_cons hxs
      obtain ⟨u, b', ys', e1, e2, t, e3, e4⟩ := cell_eq (P := P) (w := w) hu d hk1 hr hv hb
      obtain ⟨hy1, hy2⟩ := drop_cons e1
      have hp := kind_plain hu
      simp only [Op.eqFields, hn, ne_eq, not_false_eq_true, if_true, Sem.run_bind, ho, run_part_plain w hp hx1, run_part_plain w hp hy1, Result.andThen_ok, e3]
      rcases e4 with ⟨rfl, rfl⟩ | ⟨rfl, e4⟩
      · simp
      · simp only [Bool.not_true, Bool.false_eq_true, if_false]
        exact ih hk2 e4 (by rw [hx2]; exact hl) (by rw [hy2]; exact e2)

theorem eqItems_ok (d : Nat) {e : TypeId} {k : EK} (hu : P.underlying e = some k.desc) {xs ys : Array Value} : ∀ {n i : Nat} {a b : List AV} {r : Bool}, kindsOk (List.replicate n k) a = true → eqScalars a b = some r → VRL μ a (xs.toList.drop i) → VRL μ b (ys.toList.drop i) →
    (Op.eqItems (d + 1) e 1 xs ys (List.range' i n)).run P w = .ok r w
  | 0, i, a, b, r, hk, hr, _, _ => by
    cases a with
    | cons x a => simp [kindsOk] at hk
    | nil =>
      cases b with
      | nil => simp only [eqScalars, Option.some.injEq] at hr; subst hr; simp [Op.eqItems]
      | cons y b => simp [eqScalars] at hr
  | n + 1, i, a, b, r, hk, hr, ha, hb => by
    cases a with
    | nil => simp [List.replicate, kindsOk] at hk
    | cons x a =>
      simp only [List.replicate, kindsOk] at hk
      obtain ⟨hk1, hk2⟩ := cond_and hk
      generalize hxs : xs.toList.drop i = xl at ha
      cases ha with | cons hv hl =>
      obtain ⟨hx1, hx2⟩ := drop_cons hxs
      obtain ⟨u, b', ys', e1, e2, t, e3, e4⟩ := cell_eq (P := P) (w := w) hu d hk1 hr hv hb
      obtain ⟨hy1, hy2⟩ := drop_cons e1
      have hp := kind_plain hu
      simp only [List.range'_succ, Op.eqItems, Sem.run_bind, Nat.mul_one, run_part_plain w hp hx1, run_part_plain w hp hy1, Result.andThen_ok, e3]
      rcases e4 with ⟨rfl, rfl⟩ | ⟨rfl, e4⟩
      · simp
      · simp only [Bool.not_true, Bool.false_eq_true, if_false]
        exact eqItems_ok d hu hk2 e4 (by rw [hx2]; exact hl) (by rw [hy2]; exact e2)

/-- '==' of a struct of plain cells -/
theorem struct_eqs {t : TypeId} {fs : Array Field} {ks : List EK} (hu : P.underlying t = some (.struct fs)) (hp : P.stoodInHeld t = false) (hf : FieldsOk P fs.toList ks 0) {a b : List AV} {r : Bool} {xs ys : Array Value} (hk : kindsOk ks a = true)
    (hr : eqScalars a b = some r) (ha : VRL μ a xs.toList) (hb : VRL μ b ys.toList) : (Op.equal t (.agg xs) (.agg ys)).run P w = .ok r w := by
  have hfo : P.fieldsOf t = fs := by unfold Program.fieldsOf; rw [hu]
  have h0 : Op.equal t (.agg xs) (.agg ys) = Op.equalIn (9998 + 1 + 1) t (.agg xs) (.agg ys) := rfl
  rw [h0, run_equalIn_struct w _ t xs ys (by rw [hfo]; exact hu) hp, hfo]
  exact eqFields_ok 9998 hf hk hr (by simpa using ha) (by simpa using hb)

theorem array_eqs {t e : TypeId} {n : Nat} {i : TypeInfo} {k : EK} (hu : P.underlying t = some (.array n e)) (hi : P.info? e = some i) (hsz : i.size = 1) (hue : P.underlying e = some k.desc) {a b : List AV} {r : Bool} {xs ys : Array Value} (hk : kindsOk (List.replicate n k) a = true)
    (hr : eqScalars a b = some r) (ha : VRL μ a xs.toList) (hb : VRL μ b ys.toList) : (Op.equal t (.agg xs) (.agg ys)).run P w = .ok r w := by
  have h0 : Op.equal t (.agg xs) (.agg ys) = Op.equalIn (9998 + 1 + 1) t (.agg xs) (.agg ys) := rfl
  have hc : P.cellsOf e = 1 := by unfold Program.cellsOf; rw [hi]; exact hsz
  rw [h0, run_equalIn_array w _ xs ys hu hi, hc, List.range_eq_range']
  exact eqItems_ok 9998 hue hk hr (by simpa using ha) (by simpa using hb)

theorem cell_key {e : TypeId} {k : EK} (h : P.underlying e = some k.desc) {x : AV} {v : Value} (hx : kindOk k x = true) (hv : VR μ x v) (em : Bool) (n : Nat) : (Instr.checkKey em (n + 1) e v).run P w = .ok () w := by
  simp only [Instr.checkKey, Sem.run_bind, run_underlying h, Result.andThen_ok]
  cases k <;> cases x <;> simp [kindOk] at hx
  · cases hv; rfl
  · obtain ⟨s, rfl, _⟩ := str_of hv; rfl
  · cases hv; rfl

theorem struct_keys {t : TypeId} {fs : Array Field} {ks : List EK} (hu : P.underlying t = some (.struct fs)) (hf : FieldsOk P fs.toList ks 0) {a : List AV} {xs : Array Value} (hk : kindsOk ks a = true) (ha : VRL μ a xs.toList) (em : Bool) :
    (Instr.checkKey em 10000 t (.agg xs)).run P w = .ok () w := by
  have h0 : Instr.checkKey em 10000 t (.agg xs) = Instr.checkKey em (9998 + 1 + 1) t (.agg xs) := rfl
  rw [h0, Instr.checkKey]
  simp only [Sem.run_bind, run_underlying hu, Result.andThen_ok]
  rw [← Array.forIn_toList]
  replace ha : VRL μ a (xs.toList.drop 0) := by simpa using ha
  clear hu h0
  generalize fs.toList = l at hf
  generalize (0 : Nat) = i at hf ha
  induction hf generalizing a with
  | nil => simp
  | cons hn hue ho _ ih =>
    cases a with
    | nil => simp [kindsOk] at hk
    | cons x a =>
      simp only [kindsOk] at hk
      obtain ⟨hk1, hk2⟩ := cond_and hk
      generalize hxs : xs.toList.drop _ = xl at ha
      cases ha with | cons hv hl =>
      obtain ⟨hx1, hx2⟩ := drop_cons hxs
      have hp := kind_plain hue
      have := ih hk2 (by rw [hx2]; exact hl)
      simp only [List.forIn_cons, Sem.run_bind, hn, ne_eq, not_false_eq_true, if_true, ho, run_part_plain w hp hx1, Result.andThen_ok, cell_key (w := w) hue hk1 hv, Sem.run_pure]
      exact this

theorem array_keys {t e : TypeId} {n : Nat} {i : TypeInfo} {k : EK} (hu : P.underlying t = some (.array n e)) (hi : P.info? e = some i) (hsz : i.size = 1) (hue : P.underlying e = some k.desc) {a : List AV} {xs : Array Value} (hk : kindsOk (List.replicate n k) a = true)
    (ha : VRL μ a xs.toList) (em : Bool) : (Instr.checkKey em 10000 t (.agg xs)).run P w = .ok () w := by
  have h0 : Instr.checkKey em 10000 t (.agg xs) = Instr.checkKey em (9998 + 1 + 1) t (.agg xs) := rfl
  have hc : P.cellsOf e = 1 := by unfold Program.cellsOf; rw [hi]; exact hsz
  rw [h0, Instr.checkKey]
  simp only [Sem.run_bind, run_underlying hu, Result.andThen_ok]
  simp only [Std.Legacy.Range.forIn_eq_forIn_range', Std.Legacy.Range.size, Nat.sub_zero, Nat.add_one_sub_one, Nat.div_one]
  replace ha : VRL μ a (xs.toList.drop 0) := by simpa using ha
  clear hu h0
  generalize (0 : Nat) = j at ha
  induction n generalizing a j with
  | zero => simp
  | succ n ih =>
    cases a with
    | nil => simp [List.replicate, kindsOk] at hk
    | cons x a =>
      simp only [List.replicate, kindsOk] at hk
      obtain ⟨hk1, hk2⟩ := cond_and hk
      generalize hxs : xs.toList.drop _ = xl at ha
      cases ha with | cons hv hl =>
      obtain ⟨hx1, hx2⟩ := drop_cons hxs
      have hp := kind_plain hue
      have := ih hk2 (j + 1) (by rw [hx2]; exact hl)
      simp only [List.range'_succ, List.forIn_cons, Sem.run_bind, run_sizeOf w hi, hc, Nat.mul_one, run_part_plain w hp hx1, Result.andThen_ok, cell_key (w := w) hue hk1 hv, Sem.run_pure]
      exact this

end
end Go.Ab
end
section
namespace Go.Ab

section
variable {E : Env} {P : Program} (ok : EnvOk E P) (hfol : P.follows .rangeFuncRecover = true) (hs : SumOk E P)
include ok hfol hs

/-- WHAT A RUN OF THE ABSTRACT MACHINE SAYS OF A CALL. -/
theorem calls_of {n d : Nat} {f : FuncId} {args : List AV} {args' : Array Value} {h h' : Heap} {v : AV} {μ : Mu} {O : Own} {w : World} (hres : callN E (runFr E n d) f args h = .ret (v, h')) (ha : VRL μ args args'.toList)
    (hr : HRel E O μ h w.heap) (hb : Bound μ h) :
    Calls P f args' w fun e w' => ∃ v' μ', e = .returned v' ∧ Gr μ μ' h h' ∧ Bound μ' h' ∧ VR μ' v v' ∧ Step O w w' ∧ HRel E O μ' h' w'.heap := by
  intro cs
  have hc := call_ok ok (run_ok ok hfol hs n d O) f args args' .normal cs μ h w ha hr hb (.inl rfl)
  rw [hres] at hc
  obtain ⟨_, μ', w', v', a1, a2, a3, a4, a5, fr, fn, b1, b2, b3, b4, b5, b6, b7⟩ := hc.of_ret
  exact ⟨.returned v', w', fr, ⟨v', μ', rfl, a1, a2, a3, a4, a5⟩, b1, b5, b2, b3, b4, fn, b6, b7⟩

end

/-- what is not there yet -/
def fresh (w : World) : Own := ⟨fun c => w.heap.size ≤ c, fun _ => False⟩
/-- nothing is known of the heap -/
theorem hrel_empty (E : Env) (w : World) (d n : Nat) (l : List Nat) : HRel E (fresh w) (fun _ => none) ⟨.full none d, n, l⟩ w.heap := by
  have hn : ∀ c, Heap.get ⟨.full none d, n, l⟩ c = none := fun c => T.get_full none d c
  refine ⟨?_, ?_, ?_, ?_, ?_, ?_, ?_, ?_⟩
  · intro b o h; rw [hn] at h; cases h
  · intro b b' o o' p p' h; rw [hn] at h; cases h
  · intro b o p _ _ h; cases h
  · intro b p h; cases h
  · intro c hc; exact hc
  · intro b m mods seen p pm es mo h; rw [hn] at h; cases h
  · intro b c p h; rw [hn] at h; cases h
  · intro c h; exact h.elim

end Go.Ab
end
