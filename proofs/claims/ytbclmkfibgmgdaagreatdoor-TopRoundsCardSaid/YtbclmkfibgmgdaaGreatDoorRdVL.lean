/- Operations that read the heap. Operations that read the heap; operations that make a block. Conditions: none. -/
import Derived.Test.YtbclmkfibgmgdaaGreatDoorRdVJ
import Derived.Laws.StructEq
import Derived.Laws.BytesString
import Derived.Laws.BytesArg
section
namespace Go.Ab

/-- a block of cells, as the model has it -/
structure CellsO (μ : Mu) (hp : Array Obj) (p : Pl) (c : List AV) (e : TypeId) (pre mid post : List Value) (fr : Nat × Nat) : Prop where
  at_ : hp[p.blk]? = some (.cells (pre ++ mid ++ post).toArray e fr)
  sh : pre.length = p.sh
  rel : VRL μ c mid
structure CellsAt (μ : Mu) (hp : Array Obj) (p : Pl) (c : List AV) (e : TypeId) (pre mid post : List Value) (fr : Nat × Nat) : Prop extends CellsO μ hp p c e pre mid post fr where
  ok : FrOk fr (pre ++ mid ++ post).length

theorem HRel.cells {E : Env} {O : Own} {μ : Mu} {h : Heap} {hp : Array Obj} (r : HRel E O μ h hp) {b : Nat} {p : Pl} {c : List AV} {e : TypeId} {op : Bool}
    (hb : h.cells b = some (c, e, op)) (hm : μ b = some p) : ∃ pre mid post fr, CellsAt μ hp p c e pre mid post fr ∧ (op = false → p.sh = 0 ∧ post = []) ∧ p.op = op ∧
      (op = true → c.length = p.tot ∧ p.ext * p.esz ≤ post.length ∧ E.size e = some p.esz) := by
  unfold Heap.cells at hb
  cases hg : h.get b with
  | none => rw [hg] at hb; cases hb
  | some o =>
    rw [hg] at hb
    cases o <;> simp [cellsOf] at hb
    obtain ⟨rfl, rfl, rfl⟩ := hb
    obtain ⟨ob, h1, h2⟩ := r.at hg hm
    cases h2 with
    | cells a1 a2 a3 a4 a5 a6 => exact ⟨_, _, _, _, ⟨⟨h1, a1, a2⟩, a6⟩, a3, a4, a5⟩
/-- cells that are read -/
theorem HRel.rcells {E : Env} {O : Own} {μ : Mu} {h : Heap} {hp : Array Obj} (r : HRel E O μ h hp) {b : Nat} {p : Pl} {c : List AV} {e : TypeId} {op : Bool}
    (hb : h.rcells b = some (c, e, op)) (hm : μ b = some p) : ∃ e pre mid post fr, CellsO μ hp p c e pre mid post fr := by
  unfold Heap.rcells at hb
  cases hg : h.get b with
  | none => rw [hg] at hb; cases hb
  | some o =>
    rw [hg] at hb
    cases o <;> simp [rcellsOf] at hb
    · obtain ⟨rfl, rfl, rfl⟩ := hb
      obtain ⟨ob, h1, h2⟩ := r.at hg hm
      cases h2 with
      | cells a1 a2 a3 a4 a5 a6 => exact ⟨_, _, _, _, _, ⟨h1, a1, a2⟩⟩
    · obtain ⟨rfl, rfl, rfl⟩ := hb
      obtain ⟨ob, h1, h2⟩ := r.at hg hm
      cases h2 with
      | ro a1 a2 => exact ⟨_, _, _, _, _, ⟨h1, a1, a2⟩⟩

theorem cells_get {h : Heap} {b : Nat} {c : List AV} {e : TypeId} {op : Bool} (hb : h.cells b = some (c, e, op)) : h.get b = some (.cells c e op) := by
  unfold Heap.cells at hb
  cases hg : h.get b with
  | none => rw [hg] at hb; cases hb
  | some o =>
    rw [hg] at hb
    cases o <;> simp [cellsOf] at hb
    obtain ⟨rfl, rfl, rfl⟩ := hb; rfl

theorem CellsO.cell {μ : Mu} {w : World} {p : Pl} {c : List AV} {e : TypeId} {pre mid post : List Value} {fr : Nat × Nat} (h : CellsO μ w.heap p c e pre mid post fr) {i : Nat} {v : Value}
    (hv : mid[i]? = some v) : w.cell? ⟨p.blk, p.sh + i, none⟩ = some v := by
  have hlt := (List.getElem?_eq_some_iff.1 hv).1
  unfold World.cell?
  rw [h.at_]
  simp only [Option.isSome_none, Bool.false_eq_true, if_false]
  rw [← h.sh]
  have : (pre ++ mid ++ post).toArray[pre.length + i]? = (pre ++ mid ++ post)[pre.length + i]? := by simp
  rw [this, List.append_assoc, List.getElem?_append_right (by omega), Nat.add_sub_cancel_left, List.getElem?_append_left hlt, hv]

theorem CellsAt.frozen {μ : Mu} {w : World} {p : Pl} {c : List AV} {e : TypeId} {pre mid post : List Value} {fr : Nat × Nat} (h : CellsAt μ w.heap p c e pre mid post fr) {i : Nat}
    (hi : i < (pre ++ mid ++ post).length) : w.frozen? ⟨p.blk, i, none⟩ = false := by
  unfold World.frozen?
  rw [h.at_]
  obtain ⟨lo, hi'⟩ := fr
  rcases h.ok with hf | hf <;> simp only [Prod.mk.injEq] at hf <;> obtain ⟨rfl, rfl⟩ := hf
  · simp
  · simp only [Bool.and_eq_false_iff, decide_eq_false_iff_not]; left; omega

section
variable {E : Env} {P : Program} (ok : EnvOk E P)
include ok

omit ok in
/-- the cells that 'cut' cuts, loaded -/
theorem loadCells_ok {μ : Mu} {w : World} {p : Pl} {c r : List AV} {e : TypeId} {pre mid post : List Value} {fr : Nat × Nat} (h : CellsO μ w.heap p c e pre mid post fr) {off n : Nat}
    (hc : cut c off n = some r) : ∃ r', VRL μ r r' ∧ (loadCells ⟨p.blk, p.sh + off, none⟩ n).run P w = .ok r'.toArray w := by
  obtain ⟨a, b, rfl, ha, hr⟩ := cut_parts hc
  obtain ⟨x, y, hxy, hx, hy⟩ := VRL.split h.rel
  obtain ⟨x1, x2, rfl, hx1, hx2⟩ := VRL.split hx
  have l1 := hx1.length
  have l2 := hx2.length
  refine ⟨x2, hx2, ?_⟩
  have hn : n = x2.length := by omega
  rw [hn]
  apply run_loadCells_list
  intro j v hv
  rw [addr_add, Nat.add_assoc]
  apply h.cell
  have hlt := (List.getElem?_eq_some_iff.1 hv).1
  rw [hxy, List.append_assoc, List.getElem?_append_right (by omega)]
  have : off + j - x1.length = j := by omega
  rw [this, List.getElem?_append_left hlt, hv]

theorem load_ok {O : Own} {μ : Mu} {h : Heap} {w : World} (r : HRel E O μ h w.heap) {t : TypeId} {b off : Nat} {p : Pl} {v : AV} (hm : μ b = some p) (hl : loadA E t h (b, off) = some v) :
    ∃ v', (loadVar t ⟨p.blk, p.sh + off, none⟩).run P w = .ok v' w ∧ VR μ v v' := by
  unfold loadA at hl
  cases hg : E.isAgg t with
  | none => rw [hg] at hl; cases hl
  | some g =>
    cases hn : E.size t with
    | none => rw [hg, hn] at hl; cases hl
    | some n =>
      rw [hg, hn] at hl
      have hl' : (h.rcells b).bind (load1 g n off) = some v := hl
      cases hc : h.rcells b with
      | none => rw [hc] at hl'; cases hl'
      | some ce =>
        obtain ⟨c, e, op⟩ := ce
        rw [hc] at hl'
        have h1 : load1 g n off (c, e, op) = some v := hl'
        obtain ⟨e, pre, mid, post, fr, hca⟩ := r.rcells hc hm
        cases g with
        | false =>
          have h2 : nth c off = some v := h1
          rw [nth_eq] at h2
          obtain ⟨y, hy, hr⟩ := hca.rel.get off h2
          exact ⟨y, by simp [loadVar, agg_ok ok hg, hca.cell hy], hr⟩
        | true =>
          have h2 : (cut c off n).map AV.agg = some v := h1
          cases hcut : cut c off n with
          | none => rw [hcut] at h2; cases h2
          | some q =>
            rw [hcut] at h2
            simp only [Option.map_some, Option.some.injEq] at h2; subst h2
            obtain ⟨r', hr, hrun⟩ := loadCells_ok (P := P) hca hcut
            exact ⟨.agg r'.toArray, by simp [loadVar, agg_ok ok hg, size_ok ok hn, hrun], .agg hr⟩

end

/-! keys -/
theorem sameNow_ok {d : TypeDesc} {k a : AV} {k' a' : Value} {μ : Mu} {r : Bool} (hd : keyDesc (fun _ => false) d k = true) (h : keyEq k a = some r) (hk : VR μ k k') (ha : VR μ a a') :
    Instr.sameNow d k' a' = some r := by
  cases d <;> cases k <;> simp [keyDesc] at hd
  · cases a <;> simp [keyEq] at h
    cases hk; cases ha
    rw [← h, boolEq_eq]; rfl
  · cases a <;> simp [keyEq] at h
    obtain ⟨rfl, h⟩ := h
    cases hk; cases ha
    rw [← h, intEq_eq]; simp [Instr.sameNow]
  · cases a <;> simp [keyEq] at h
    cases hk with | str s => cases ha with | str s2 =>
    rw [← h, natsEq_bytes]
    simp only [Instr.sameNow, beq_toListBytes]

/-- an entry of the model's is found just if the abstract one is -/
inductive Found (μ : Mu) (es' : List MapEntry) (k : AV) : Option AV → Option (Nat × Value) → Prop
  | none : Found μ es' k none none
  | some {i : Nat} {e : MapEntry} {v : AV} : es'[i]? = some e → VR μ k e.key → VR μ v e.val → Found μ es' k (some v) (some (i, e.val))

/-- scanning: all entries' keys can be held against the key -/
theorem lookupE_all {k : AV} : ∀ {es : List (AV × AV)} {o : Option AV}, es.Pairwise Apart → lookupE k es = some o →
    (∀ e ∈ es, ∃ b, keyEq k e.1 = some b) ∧ (o = none → ∀ e ∈ es, keyEq k e.1 = some false) ∧ (∀ v, o = some v → (k, v) ∈ es)
  | [], o, _, h => by
    simp only [lookupE, Option.some.injEq] at h; subst h
    exact ⟨fun e he => (by cases he), fun _ e he => (by cases he), fun v hv => (by cases hv)⟩
  | (a, u) :: es, o, hp, h => by
    simp only [lookupE] at h
    rw [List.pairwise_cons] at hp
    cases hk : keyEq k a with
    | none => rw [hk] at h; cases h
    | some b =>
      rw [hk] at h
      cases b with
      | true =>
        simp only [Option.some.injEq] at h; subst h
        have hka := keyEq_true hk
        subst hka
        refine ⟨?_, fun hn => (by cases hn), fun v hv => by simp only [Option.some.injEq] at hv; subst hv; exact List.mem_cons_self⟩
        intro e he
        rcases List.mem_cons.1 he with rfl | he'
        · exact ⟨true, hk⟩
        · exact ⟨false, hp.1 e he'⟩
      | false =>
        have h' : lookupE k es = some o := h
        obtain ⟨h1, h2, h3⟩ := lookupE_all hp.2 h'
        refine ⟨?_, ?_, fun v hv => List.mem_cons_of_mem _ (h3 v hv)⟩
        · intro e he
          rcases List.mem_cons.1 he with rfl | he'
          · exact ⟨false, hk⟩
          · exact h1 e he'
        · intro hn e he
          rcases List.mem_cons.1 he with rfl | he'
          · exact hk
          · exact h2 hn e he'

theorem ER.mem {μ : Mu} : ∀ {l : List (AV × AV)} {l' : List MapEntry}, ER μ l l' → ∀ e ∈ l', ∃ x ∈ l, VR μ x.1 e.key ∧ VR μ x.2 e.val
  | _, _, .nil, e, he => by cases he
  | _, _, .cons hk hv hl, e, he => by
    rcases List.mem_cons.1 he with rfl | he'
    · exact ⟨_, List.mem_cons_self, hk, hv⟩
    · obtain ⟨x, hx, h1, h2⟩ := hl.mem e he'
      exact ⟨x, List.mem_cons_of_mem _ hx, h1, h2⟩

theorem apart_unique {k v u : AV} : ∀ {es : List (AV × AV)}, es.Pairwise Apart → (k, v) ∈ es → (k, u) ∈ es → keyEq k k = some true → v = u
  | [], _, h, _, _ => by cases h
  | x :: es, hp, h1, h2, hk => by
    rw [List.pairwise_cons] at hp
    rcases List.mem_cons.1 h1 with rfl | h1' <;> rcases List.mem_cons.1 h2 with h2' | h2'
    · simp only [Prod.mk.injEq, true_and] at h2'; exact h2'.symm
    · have := hp.1 _ h2'; simp only [Apart, hk] at this; simp at this
    · subst h2'; have := hp.1 _ h1'; simp only [Apart, hk] at this; simp at this
    · exact apart_unique hp.2 h1' h2' hk

/-- the model's scan, given what it says at each entry -/
theorem findNow_ok {d : TypeDesc} {k' : Value} (f : MapEntry → Bool) : ∀ (es' : List MapEntry) (i : Nat), (∀ e ∈ es', Instr.sameNow d k' e.key = some (f e)) →
    (∃ j e, es'[j]? = some e ∧ f e = true ∧ Instr.findNow d k' es' i = some (some (i + j, e.val))) ∨ ((∀ e ∈ es', f e = false) ∧ Instr.findNow d k' es' i = some none)
  | [], i, _ => .inr ⟨fun e he => (by cases he), rfl⟩
  | x :: es', i, h => by
    have hx := h x List.mem_cons_self
    cases hf : f x with
    | true => left; exact ⟨0, x, rfl, hf, by simp [Instr.findNow, hx, hf]⟩
    | false =>
      rcases findNow_ok f es' (i + 1) (fun e he => h e (List.mem_cons_of_mem _ he)) with ⟨j, e, h1, h2, h3⟩ | ⟨h1, h2⟩
      · left; exact ⟨j + 1, e, by simpa using h1, h2, by simp only [Instr.findNow, hx, hf, h3]; congr 3; omega⟩
      · right
        refine ⟨?_, by simp only [Instr.findNow, hx, hf, h2]⟩
        intro e he
        rcases List.mem_cons.1 he with rfl | he'
        · exact hf
        · exact h1 e he'

theorem findAsking_ok {P : Program} {t : TypeId} {k' : Value} (f : MapEntry → Bool) (w : World) : ∀ (es' : List MapEntry) (i : Nat), (∀ e ∈ es', (Op.equal t k' e.key).run P w = .ok (f e) w) →
    (∃ j e, es'[j]? = some e ∧ f e = true ∧ (Instr.findAsking t k' es' i).run P w = .ok (some (i + j, e.val)) w) ∨ ((∀ e ∈ es', f e = false) ∧ (Instr.findAsking t k' es' i).run P w = .ok none w)
  | [], i, _ => .inr ⟨fun e he => (by cases he), rfl⟩
  | x :: es', i, h => by
    have hx := h x List.mem_cons_self
    cases hf : f x with
    | true => left; exact ⟨0, x, rfl, hf, by simp [Instr.findAsking, hx, hf]⟩
    | false =>
      rcases findAsking_ok f w es' (i + 1) (fun e he => h e (List.mem_cons_of_mem _ he)) with ⟨j, e, h1, h2, h3⟩ | ⟨h1, h2⟩
      · left; exact ⟨j + 1, e, by simpa using h1, h2, by
          simp only [Instr.findAsking, Sem.run_bind, hx, Result.andThen_ok, hf, Bool.false_eq_true, if_false, h3]; congr 3; omega⟩
      · right
        refine ⟨?_, by simp only [Instr.findAsking, Sem.run_bind, hx, Result.andThen_ok, hf, Bool.false_eq_true, if_false, h2]⟩
        intro e he
        rcases List.mem_cons.1 he with rfl | he'
        · exact hf
        · exact h1 e he'

theorem eqScalars_refl : ∀ (a : List AV) (r : Bool), eqScalars a a = some r → r = true
  | [], r, h => by simp only [eqScalars, Option.some.injEq] at h; exact h.symm
  | .int k m :: x, r, h => by
    simp only [eqScalars, if_true, (intEq_iff m m).2 rfl, cond_true] at h; exact eqScalars_refl x r h
  | .str m :: x, r, h => by
    simp only [eqScalars, (natsEq_iff m m).2 rfl, cond_true] at h; exact eqScalars_refl x r h
  | .bool m :: x, r, h => by
    simp only [eqScalars, (boolEq_iff m m).2 rfl, cond_true] at h; exact eqScalars_refl x r h

theorem keyEq_refl {a : AV} {r : Bool} (h : keyEq a a = some r) : r = true := by
  cases a <;> simp only [keyEq, Option.some.injEq] at h <;> try (cases h; done)
  · rw [← h]; exact (boolEq_iff _ _).2 rfl
  · simp only [if_true, Option.some.injEq] at h; rw [← h]; exact (intEq_iff _ _).2 rfl
  · rw [← h]; exact (natsEq_iff _ _).2 rfl
  · exact eqScalars_refl _ _ h

theorem ER.mem' {μ : Mu} : ∀ {l : List (AV × AV)} {l' : List MapEntry}, ER μ l l' → ∀ x ∈ l, ∃ e ∈ l', VR μ x.1 e.key ∧ VR μ x.2 e.val
  | _, _, .nil, e, he => by cases he
  | _, _, .cons hk hv hl, e, he => by
    rcases List.mem_cons.1 he with rfl | he'
    · exact ⟨_, List.mem_cons_self, hk, hv⟩
    · obtain ⟨x, hx, h1, h2⟩ := hl.mem' e he'
      exact ⟨x, List.mem_cons_of_mem _ hx, h1, h2⟩

section
variable {E : Env} {P : Program} (ok : EnvOk E P)
include ok

theorem checkKey_ok {kt : TypeId} {k : AV} {k' : Value} {μ : Mu} (hk : keyOk E kt k = true) (hs : ∃ r, keyEq k k = some r) (hx : VR μ k k') (e : Bool) (w : World) :
    (Instr.checkKey e 10000 kt k').run P w = .ok () w := by
  unfold keyOk at hk
  cases hd : E.under kt with
  | none => rw [hd] at hk; cases hk
  | some d =>
    rw [hd] at hk
    have hk' : keyDesc (E.eqT kt) d k = true := hk
    have hu := runUnder ok hd w
    have h0 : Instr.checkKey e 10000 kt k' = Instr.checkKey e (9999 + 1) kt k' := rfl
    cases k <;> try (cases d <;> simp [keyDesc] at hk'; done)
    case agg a =>
      cases hx with | agg hc =>
      obtain ⟨r, hr⟩ := hs
      have hg : E.eqT kt a = true := by cases d <;> simp [keyDesc] at hk' <;> exact hk'.1
      exact ok.keys kt a hg r _ μ hr hc e w
    all_goals
      cases hx
      cases d <;> simp [keyDesc] at hk'
      rw [h0]
      generalize 9999 = n
      simp only [Instr.checkKey, Sem.run_bind, hu, Result.andThen_ok]
      rfl

omit ok in
theorem keyOk_self {kt : TypeId} {k : AV} (hk : keyOk E kt k = true) : ∃ r, keyEq k k = some r := by
  unfold keyOk at hk
  cases hd : E.under kt with
  | none => rw [hd] at hk; cases hk
  | some d =>
    rw [hd] at hk
    have hk' : keyDesc (E.eqT kt) d k = true := hk
    cases k <;> try (cases d <;> simp [keyDesc] at hk'; done)
    · exact ⟨_, rfl⟩
    · exact ⟨_, by simp only [keyEq, if_true]; rfl⟩
    · exact ⟨_, rfl⟩
    · rename_i a
      have : (eqScalars a a).isSome = true := by cases d <;> simp [keyDesc] at hk' <;> exact hk'.2
      obtain ⟨r, hr⟩ := Option.isSome_iff_exists.1 this
      exact ⟨r, hr⟩

theorem findKey_ok {kt : TypeId} {k : AV} {k' : Value} {μ : Mu} {es : List (AV × AV)} {es' : Array MapEntry} {clock : Nat} {o : Option AV} (hk : keyOk E kt k = true) (hx : VR μ k k')
    (hm : MapR μ es es' clock) (hl : lookupE k es = some o) (w : World) :
    ∃ res, (Instr.findKey kt k' es'.toList).run P w = .ok res w ∧ Found μ es'.toList k o res := by
  obtain ⟨l, hperm, her⟩ := hm.ex
  obtain ⟨hall, hnone, hsome⟩ := lookupE_all hm.apart hl
  -- whatever scan says rightly at each entry finds rightly
  have key : ∀ (f : MapEntry → Bool) (res : Option (Nat × Value)),
      (∀ e ∈ es'.toList, ∀ x ∈ es, VR μ x.1 e.key → keyEq k x.1 = some (f e)) →
      ((∃ j e, es'.toList[j]? = some e ∧ f e = true ∧ res = some (j, e.val)) ∨ ((∀ e ∈ es'.toList, f e = false) ∧ res = none)) → Found μ es'.toList k o res := by
    intro f res hf hr
    rcases hr with ⟨j, e, h1, h2, rfl⟩ | ⟨h1, rfl⟩
    · have he : e ∈ es'.toList := List.mem_of_getElem? h1
      obtain ⟨x, hx1, hx2, hx3⟩ := her.mem e (hperm.mem_iff.2 he)
      have h3 := hf e he x hx1 hx2
      rw [h2] at h3
      have hkx := keyEq_true h3
      cases o with
      | none => have := hnone rfl x hx1; rw [h3] at this; cases this
      | some v =>
        have h4 := hsome v rfl
        have h5 : x = (k, x.2) := by rw [hkx]
        rw [← hkx] at h3
        have h6 := apart_unique hm.apart h4 (h5 ▸ hx1) h3
        subst h6
        exact .some h1 (hkx ▸ hx2) hx3
    · cases o with
      | none => exact .none
      | some v =>
        have h4 := hsome v rfl
        obtain ⟨e, he, h5, _⟩ := her.mem' (k, v) h4
        have he' := hperm.mem_iff.1 he
        have h6 := hf e he' (k, v) h4 h5
        have h7 := keyEq_refl h6
        rw [h1 e he'] at h7; cases h7
  unfold keyOk at hk
  cases hd : E.under kt with
  | none => rw [hd] at hk; cases hk
  | some d =>
    rw [hd] at hk
    have hk' : keyDesc (E.eqT kt) d k = true := hk
    have hu := runUnder ok hd w
    by_cases hplain : keyDesc (fun _ => false) d k = true
    · -- found at once
      let f : MapEntry → Bool := fun e => (Instr.sameNow d k' e.key).getD false
      have hsame : ∀ e ∈ es'.toList, ∃ x ∈ es, VR μ x.1 e.key ∧ ∃ b, keyEq k x.1 = some b ∧ Instr.sameNow d k' e.key = some b := by
        intro e he
        obtain ⟨x, hx1, hx2, _⟩ := her.mem e (hperm.mem_iff.2 he)
        obtain ⟨b, hb⟩ := hall x hx1
        exact ⟨x, hx1, hx2, b, hb, sameNow_ok hplain hb hx hx2⟩
      have hf1 : ∀ e ∈ es'.toList, Instr.sameNow d k' e.key = some (f e) := by
        intro e he
        obtain ⟨x, _, _, b, _, h2⟩ := hsame e he
        simp [f, h2]
      have hf2 : ∀ e ∈ es'.toList, ∀ x ∈ es, VR μ x.1 e.key → keyEq k x.1 = some (f e) := by
        intro e he x hx1 hx2
        obtain ⟨b, hb⟩ := hall x hx1
        have := sameNow_ok hplain hb hx hx2
        rw [hf1 e he] at this
        simp only [Option.some.injEq] at this
        rw [hb, this]
      rcases findNow_ok f es'.toList 0 hf1 with ⟨j, e, h1, h2, h3⟩ | ⟨h1, h2⟩
      · exact ⟨some (j, e.val), by simp only [Instr.findKey, Sem.run_bind, hu, Result.andThen_ok, h3]; simp, key f _ hf2 (.inl ⟨j, e, h1, h2, rfl⟩)⟩
      · exact ⟨none, by simp only [Instr.findKey, Sem.run_bind, hu, Result.andThen_ok, h2]; rfl, key f _ hf2 (.inr ⟨h1, rfl⟩)⟩
    · -- asked, one by one
      have hag : ∃ a, k = .agg a ∧ E.eqT kt a = true ∧ ((∃ fs, d = .struct fs) ∨ ∃ n e, d = .array n e) := by
        cases k <;> cases d <;> simp [keyDesc] at hk' hplain <;> first
          | exact ⟨_, rfl, hk'.1, .inl ⟨_, rfl⟩⟩
          | exact ⟨_, rfl, hk'.1, .inr ⟨_, _, rfl⟩⟩
      obtain ⟨a, rfl, hg, hdd⟩ := hag
      cases hx with | agg hc =>
      rename_i a'
      have hsn : ∀ v, Instr.sameNow d (.agg a') v = none := by
        intro v; rcases hdd with ⟨fs, rfl⟩ | ⟨n, e, rfl⟩ <;> rfl
      have hsame : ∀ e ∈ es'.toList, ∀ x ∈ es, VR μ x.1 e.key → ∃ b, keyEq (.agg a) x.1 = some b ∧ (Op.equal kt (.agg a') e.key).run P w = .ok b w := by
        intro e he x hx1 hx2
        obtain ⟨b, hb⟩ := hall x hx1
        cases hxk : x.1 <;> rw [hxk] at hb hx2 <;> simp only [keyEq] at hb <;> try (cases hb; done)
        generalize hek : e.key = ek at hx2
        cases hx2 with | agg hc2 =>
        exact ⟨b, hb, (ok.eqs kt _ hg _ b _ _ μ hb hc hc2 w).1⟩
      let f : MapEntry → Bool := fun e => match (Op.equal kt (.agg a') e.key).run P w with | .ok b _ => b | _ => false
      have hf1 : ∀ e ∈ es'.toList, (Op.equal kt (.agg a') e.key).run P w = .ok (f e) w := by
        intro e he
        obtain ⟨x, hx1, hx2, _⟩ := her.mem e (hperm.mem_iff.2 he)
        obtain ⟨b, _, hb⟩ := hsame e he x hx1 hx2
        simp [f, hb]
      have hf2 : ∀ e ∈ es'.toList, ∀ x ∈ es, VR μ x.1 e.key → keyEq (.agg a) x.1 = some (f e) := by
        intro e he x hx1 hx2
        obtain ⟨b, hb, hb2⟩ := hsame e he x hx1 hx2
        rw [hb]; simp [f, hb2]
      cases hes : es'.toList with
      | nil =>
        refine ⟨none, by simp only [Instr.findKey, Sem.run_bind, hu, Result.andThen_ok]; rfl, ?_⟩
        have := key f none hf2 (.inr ⟨by rw [hes]; intro e he; exact absurd he (by simp), rfl⟩)
        rw [hes] at this; exact this
      | cons e0 rest =>
        have hfn : Instr.findNow d (.agg a') (e0 :: rest) 0 = none := by simp only [Instr.findNow, hsn]
        rw [← hes] at hfn ⊢
        rcases findAsking_ok f w es'.toList 0 hf1 with ⟨j, e, h1, h2, h3⟩ | ⟨h1, h2⟩
        · exact ⟨some (j, e.val), by simp only [Instr.findKey, Sem.run_bind, hu, Result.andThen_ok, hfn, h3]; simp, key f _ hf2 (.inl ⟨j, e, h1, h2, rfl⟩)⟩
        · exact ⟨none, by simp only [Instr.findKey, Sem.run_bind, hu, Result.andThen_ok, hfn, h2], key f _ hf2 (.inr ⟨h1, rfl⟩)⟩

end

end Go.Ab
end
section
namespace Go.Ab

theorem ptrOf_ok {x : AV} {p : Nat × Nat} (h : ptrOf x = some p) : x = .ptr p.1 p.2 := by
  cases x <;> simp [ptrOf] at h
  subst h; rfl

theorem mapAt_get {h : Heap} {b : Nat} {e : List (AV × AV) × Nat} (hb : h.mapAt b = some e) : h.get b = some (.map e.1 e.2) := by
  unfold Heap.mapAt at hb
  cases hg : h.get b with
  | none => rw [hg] at hb; cases hb
  | some o =>
    rw [hg] at hb
    cases o <;> simp [mapOf] at hb
    subst hb; rfl

theorem HRel.map {E : Env} {O : Own} {μ : Mu} {h : Heap} {hp : Array Obj} (r : HRel E O μ h hp) {b : Nat} {p : Pl} {es : List (AV × AV)} {m : Nat}
    (hb : h.get b = some (.map es m)) (hm : μ b = some p) : ∃ es' clock, hp[p.blk]? = some (.map es' clock) ∧ MapR μ es es' clock := by
  obtain ⟨ob, h1, h2⟩ := r.at hb hm
  cases h2 with
  | map hr => exact ⟨_, _, h1, hr⟩

theorem mapR_nil (μ : Mu) : MapR μ [] #[] 0 := ⟨⟨[], by simp, .nil⟩, .nil, by simp, by simp, by simp⟩

theorem ofBytes_cons {a : AV} {l : List AV} {ns : List Nat} (h : ofBytes (a :: l) = some ns) : ∃ n q, a = .int .u8 (.ofNat n) ∧ n < 256 ∧ ofBytes l = some q ∧ ns = n :: q := by
  cases a <;> try (simp [ofBytes] at h; done)
  rename_i k i
  cases k <;> cases i <;> try (simp [ofBytes] at h; done)
  rename_i n
  simp only [ofBytes] at h
  cases hb : Nat.blt n 256 with
  | false => rw [hb] at h; cases h
  | true =>
    rw [hb] at h
    cases hq : ofBytes l with
    | none => rw [hq] at h; cases h
    | some q =>
      rw [hq] at h
      simp only [cond_true, Option.map_some, Option.some.injEq] at h
      exact ⟨n, q, rfl, (blt_iff _ _).1 hb, rfl, h.symm⟩

theorem ofBytes_ok {μ : Mu} : ∀ {l : List AV} {l' : List Value} {ns : List Nat}, VRL μ l l' → ofBytes l = some ns →
    l' = (ns.map fun (n : Nat) => (n : Int)).map (Value.int .u8) ∧ ns.map (fun n => (UInt8.ofNat n).toNat) = ns
  | _, _, ns, .nil, h => by simp only [ofBytes, Option.some.injEq] at h; subst h; exact ⟨rfl, rfl⟩
  | _, _, ns, .cons hv hl, h => by
    obtain ⟨n, q, rfl, hn, h1, rfl⟩ := ofBytes_cons h
    cases hv
    obtain ⟨h2, h3⟩ := ofBytes_ok hl h1
    refine ⟨by rw [h2]; rfl, ?_⟩
    simp only [List.map_cons, h3]
    congr 1
    simp [UInt8.toNat_ofNat']; omega

section
variable {E : Env} {P : Program} (ok : EnvOk E P)
include ok

omit ok in
theorem mapT_ok {t : TypeId} {kt e : TypeId} (h : E.mapT t = some (kt, e)) : E.under t = some (.map kt e) := by
  unfold Env.mapT at h
  cases hd : E.under t with
  | none => rw [hd] at h; cases h
  | some d =>
    rw [hd] at h
    cases d <;> simp [mapTypes] at h
    obtain ⟨rfl, rfl⟩ := h; rfl

theorem lookup_ok {O : Own} {μ : Mu} {h : Heap} {w : World} (r : HRel E O μ h w.heap) {t : TypeId} {x k v : AV} {x' k' : Value} {cok : Bool} (hx : VR μ x x') (hk : VR μ k k')
    (hl : lookupA E t x k cok h = some v) : ∃ v', (Instr.lookup t x' k' cok).run P w = .ok v' w ∧ VR μ v v' := by
  unfold lookupA at hl
  cases hmt : E.mapT t with
  | none => rw [hmt] at hl; cases hl
  | some ke =>
    obtain ⟨kt, e⟩ := ke
    rw [hmt] at hl
    have hu := runUnder ok (mapT_ok hmt) w
    have hl1 : (match entriesOf h x, E.zero e with | some es, some z => Bool.rec none (lookupZ es z k cok) (keyOk E kt k) | _, _ => none : Option AV) = some v := hl
    cases he : entriesOf h x with
    | none => rw [he] at hl1; cases hl1
    | some es =>
      cases hz : E.zero e with
      | none => rw [he, hz] at hl1; cases hl1
      | some z =>
        rw [he, hz] at hl1
        obtain ⟨hko, hl2⟩ := guard_some hl1
        unfold lookupZ at hl2
        cases hle : lookupE k es with
        | none => rw [hle] at hl2; cases hl2
        | some o =>
          rw [hle] at hl2
          simp only [Option.map_some, Option.some.injEq] at hl2
          obtain ⟨z', hz1, hz2⟩ := zero_ok ok hz μ w
          have main : ∀ (es' : Array MapEntry) (clock : Nat), MapR μ es es' clock → (x' = .map none ∧ es' = #[] ∨ ∃ m, x' = .map (some m) ∧ w.heap[m]? = some (.map es' clock)) →
              ∃ v', (Instr.lookup t x' k' cok).run P w = .ok v' w ∧ VR μ v v' := by
            intro es' clock hmr hx'
            obtain ⟨res, hf, hfound⟩ := findKey_ok ok hko hk hmr hle w
            have hck := checkKey_ok ok hko (keyOk_self hko) hk es'.isEmpty w
            have hlook : ∀ z0, (Instr.lookup t x' k' cok).run P w = z0 ↔
                (do Instr.checkKey es'.isEmpty 10000 kt k'
                    let (v, ok) ← match ← Instr.findKey kt k' es'.toList with
                      | some (_, v) => pure (v, true)
                      | none => pure (← zeroValue e, false)
                    pure (if cok then Value.tuple #[v, .bool ok] else v) : Sem Value).run P w = z0 := by
              intro z0
              rcases hx' with ⟨rfl, rfl⟩ | ⟨m, rfl, hh⟩
              · unfold Instr.lookup
                simp only [Sem.run_bind, hu, Result.andThen_ok, Sem.run_pure]
                exact Iff.rfl
              · have hg : (getObj m).run P w = .ok (.map es' clock) w := by simp only [getObj, Sem.run, hh]
                unfold Instr.lookup
                simp only [Sem.run_bind, hu, Result.andThen_ok, hg, Sem.run_pure]
                exact Iff.rfl
            cases hfound with
            | none =>
              refine ⟨if cok then .tuple #[z', .bool false] else z', (hlook _).2 ?_, ?_⟩
              · simp only [Sem.run_bind, Result.andThen_ok, hck, hf, hz1, Sem.run_pure]
              · rw [← hl2]
                cases cok
                · exact hz2
                · exact .tup (.cons hz2 (.cons (.bool _) .nil))
            | some h1 h2 h3 =>
              rename_i i en u
              refine ⟨if cok then .tuple #[en.val, .bool true] else en.val, (hlook _).2 ?_, ?_⟩
              · simp only [Sem.run_bind, Result.andThen_ok, hck, hf, Sem.run_pure]
              · rw [← hl2]
                cases cok
                · exact h3
                · exact .tup (.cons h3 (.cons (.bool _) .nil))
          unfold entriesOf at he
          split at he
          · simp only [Option.some.injEq] at he; subst he
            cases hx
            exact main #[] 0 (mapR_nil μ) (.inl ⟨rfl, rfl⟩)
          · rename_i m
            cases hx with | map hp =>
            rename_i p
            cases hma : h.mapAt m with
            | none => rw [hma] at he; cases he
            | some em =>
              rw [hma] at he
              simp only [Option.map_some, Option.some.injEq] at he; subst he
              obtain ⟨es', clock, h1, h2⟩ := r.map (mapAt_get hma) hp
              exact main es' clock h2 (.inr ⟨p.blk, rfl, h1⟩)
          · cases he

theorem convText_ok {O : Own} {μ : Mu} {h : Heap} {w : World} (r : HRel E O μ h w.heap) {src dst e : TypeId} {x v : AV} {x' : Value} (h0 : E.under src = some (.slice e)) (hd : E.under dst = some .string)
    (hx : VR μ x x') (hl : convText x e E h = some v) : ∃ v', (convert src dst x').run P w = .ok v' w ∧ VR μ v v' := by
  unfold convText at hl
  split at hl
  · obtain ⟨hb, h2⟩ := guard_some hl
    simp only [Option.some.injEq] at h2; subst h2
    have hb' := under_ok ok (byteElem_ok hb)
    cases hx
    exact ⟨.string ByteArray.empty, run_convert_bytes_nil w src e (under_ok ok h0) hb' 0 0 dst (under_ok ok hd), .str ByteArray.empty⟩
  · rename_i b off n c op
    obtain ⟨hb, h2⟩ := guard_some hl
    have hb' := under_ok ok (byteElem_ok hb)
    cases hx with | slice hp hop =>
    rename_i p
    cases hc : h.cells b with
    | none => rw [hc] at h2; cases h2
    | some ce =>
      obtain ⟨cc, e1, o1⟩ := ce
      rw [hc] at h2
      simp only [Option.bind_some] at h2
      cases hcut : cut cc off n with
      | none => rw [hcut] at h2; cases h2
      | some q =>
        rw [hcut] at h2
        simp only [Option.bind_some] at h2
        cases hob : ofBytes q with
        | none => rw [hob] at h2; cases h2
        | some ns =>
          rw [hob] at h2
          simp only [Option.map_some, Option.some.injEq] at h2; subst h2
          obtain ⟨pre, mid, post, fr, hca, _⟩ := r.cells hc hp
          obtain ⟨r', hr, hrun⟩ := loadCells_ok (P := P) hca.toCellsO hcut
          obtain ⟨h3, h4⟩ := ofBytes_ok hr hob
          rw [h3] at hrun
          have hs : ns = bytesL ⟨(ns.map UInt8.ofNat).toArray⟩ := by
            unfold bytesL
            simp only [List.map_map]
            exact h4.symm
          have hv : VR μ (.str ns) (.string ⟨(ns.map UInt8.ofNat).toArray⟩) := by
            have := VR.str (μ := μ) ⟨(ns.map UInt8.ofNat).toArray⟩
            rw [← hs] at this; exact this
          refine ⟨.string ⟨(ns.map UInt8.ofNat).toArray⟩, ?_, hv⟩
          rw [run_convert_bytes_string w src dst e _ n _ (under_ok ok h0) hb' (under_ok ok hd), run_bytesToString w _ n _ _ hrun, foldl_push_bytes]
          congr 2
          simp [ByteArray.empty, ByteArray.emptyWithCapacity]
          rfl
  · cases hl

theorem lenM_ok {O : Own} {μ : Mu} {h : Heap} {w : World} (r : HRel E O μ h w.heap) {t ty kt e : TypeId} {x v : AV} {x' : Value} (hd : E.under t = some (.map kt e)) (hx : VR μ x x') (hl : lenM x h = some v) :
    ∃ v', (Builtin.len_ #[t] ty #[x']).run P w = .ok v' w ∧ VR μ v v' := by
  have hu := runUnder ok hd w
  unfold lenM at hl
  split at hl
  · cases hx
    simp only [Option.some.injEq] at hl; subst hl
    exact ⟨goInt (0 : Nat), by simp [Builtin.len_, hu], .int _ _⟩
  · rename_i m
    cases hx with | map hp =>
    rename_i p
    cases hma : h.mapAt m with
    | none => rw [hma] at hl; cases hl
    | some em =>
      rw [hma] at hl
      simp only [Option.map_some, Option.some.injEq] at hl; subst hl
      obtain ⟨es', clock, h1, h2⟩ := r.map (mapAt_get hma) hp
      obtain ⟨l, hperm, her⟩ := h2.ex
      have hlen : len em.1 = es'.size := by
        rw [len_eq, her.length, hperm.length_eq]; simp
      refine ⟨goInt es'.size, ?_, by rw [hlen]; exact .int _ _⟩
      have hg : (getObj p.blk).run P w = .ok (.map es' clock) w := by simp only [getObj, Sem.run, h1]
      simp [Builtin.len_, hu, hg]
  · cases hl

/-- EVERY OPERATION THAT READS. -/
theorem rd_ok {O : Own} {o : Oper} {x : Operand} {f : RF} (hf : doOp o.op E = .rd x f) {μ : Mu} {tm : T AV} {a : Act} {w : World} {h : Heap} (r : TmR μ tm a.tmps) (hr : HRel E O μ h w.heap) {v : AV}
    (hv : f E tm h = some v) : ∃ v', (execOp a.eval o).run P w = .ok (.value v') w ∧ VR μ v v' := by
  obtain ⟨dst, op, type, pos, after, guard⟩ := o
  have keep : ∀ (s : Sem Value), (∃ v', s.run P w = .ok v' w ∧ VR μ v v') → ∃ v', (do pure (Next.value (← s)) : Sem Next).run P w = .ok (.value v') w ∧ VR μ v v' := by
    rintro s ⟨v', h1, h2⟩
    exact ⟨v', by simp [h1], h2⟩
  cases op <;> simp only [doOp] at hf <;> try (cases hf; done)
  case load t y =>
    cases hf
    simp only [pLoad] at hv
    cases hp : ptrOf (operand tm x) with
    | none => rw [hp] at hv; cases hv
    | some q =>
      rw [hp] at hv
      have hy := operand_rel r x
      rw [ptrOf_ok hp] at hy
      generalize hyv : a.eval x = yv at hy
      cases hy with | ptr hm =>
      refine keep _ ?_
      obtain ⟨v', h1, h2⟩ := load_ok ok hr hm hv
      exact ⟨v', by simp [hyv, Instr.loadAt, Instr.sureAddr, h1], h2⟩
  case convert s d y =>
    unfold convD at hf
    split at hf
    · rename_i e h0 hd
      cases hf
      exact keep _ (convText_ok ok hr h0 hd (operand_rel r x) hv)
    all_goals cases hf
  case lookup t y i c =>
    cases hf
    exact keep _ (lookup_ok ok hr (operand_rel r x) (operand_rel r i) hv)
  case call c =>
    obtain ⟨callee, args, argTypes⟩ := c
    have hargs : ∀ l, args.toList = l → args.map a.eval = (l.map a.eval).toArray := by
      intro l hl; apply Array.toList_inj.1; simp [hl]
    have htypes : ∀ l, argTypes.toList = l → argTypes = l.toArray := by intro l hl; rw [← hl]
    unfold callD at hf
    simp only at hf
    split at hf
    · rename_i b hb
      unfold builtinD at hf
      split at hf
      · rename_i t ts y hts hl
        unfold lenD at hf
        split at hf
        · rename_i hd
          cases hf
          obtain ⟨v', h1, h2⟩ := lenM_ok ok (ty := type) hr hd (operand_rel r x) hv
          refine ⟨v', ?_, h2⟩
          have : ∀ ts, Builtin.len_ (t :: ts).toArray type #[a.eval x] = Builtin.len_ #[t] type #[a.eval x] := by intro ts; simp [Builtin.len_]
          simp [execOp, resolve, invoke, builtin, hargs _ hl, htypes _ hts, this, h1]
        · cases hf
        · cases hf
      all_goals cases hf
    · cases hf
    · cases hf

end

/-- what a reading operation reads -/
theorem rd_local {E : Env} {o : Oper} {x : Operand} {f : RF} (hf : doOp o.op E = .rd x f) (tm : T AV) (h h2 : Heap) (hh : ∀ b, addrOf (operand tm x) = some b → h.get b = h2.get b) : f E tm h = f E tm h2 := by
  obtain ⟨dst, op, type, pos, after, guard⟩ := o
  have hcells : ∀ b, addrOf (operand tm x) = some b → h.cells b = h2.cells b := fun b hb => by unfold Heap.cells; rw [hh b hb]
  have hrc : ∀ b, addrOf (operand tm x) = some b → h.rcells b = h2.rcells b := fun b hb => by unfold Heap.rcells; rw [hh b hb]
  have hmaps : ∀ b, addrOf (operand tm x) = some b → h.mapAt b = h2.mapAt b := fun b hb => by unfold Heap.mapAt; rw [hh b hb]
  cases op <;> simp only [doOp] at hf <;> try (cases hf; done)
  case load t y =>
    cases hf
    simp only [pLoad]
    cases hp : ptrOf (operand tm x) with
    | none => rfl
    | some q =>
      simp only [Option.bind_some, loadA]
      rw [hrc q.1 (by rw [ptrOf_ok hp]; rfl)]
  case convert s d y =>
    unfold convD at hf
    split at hf
    · cases hf
      simp only [convText]
      split
      · rfl
      · rename_i heq
        rw [hcells _ (by rw [heq]; rfl)]
      · rfl
    all_goals cases hf
  case lookup t y i c =>
    cases hf
    simp only [pLookup, lookupA]
    have : entriesOf h (operand tm x) = entriesOf h2 (operand tm x) := by
      cases hx : operand tm x <;> simp only [entriesOf]
      rw [hmaps _ (by rw [hx]; rfl)]
    rw [this]
  case call c =>
    unfold callD at hf
    split at hf
    · unfold builtinD at hf
      split at hf
      · unfold lenD at hf
        split at hf
        · cases hf
          simp only [lenM]
          split
          · rfl
          · rename_i heq
            rw [hmaps _ (by rw [heq]; rfl)]
          · rfl
        · cases hf
        · cases hf
      all_goals cases hf
    · cases hf
    · cases hf

end Go.Ab
end
