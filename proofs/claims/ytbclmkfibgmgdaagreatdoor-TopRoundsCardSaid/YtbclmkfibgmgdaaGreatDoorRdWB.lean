/- Iterators stepped and read. Iterators read; appends. Appends. Appends: where the cells come to lie. Conditions: none. -/
import Derived.Test.YtbclmkfibgmgdaaGreatDoorRdVQ
section
namespace Go.Ab

theorem nodup_inj {α β : Type} {f : α → β} : ∀ {l : List α} {a b : α}, (l.map f).Nodup → a ∈ l → b ∈ l → f a = f b → a = b
  | [], _, _, _, h, _, _ => by cases h
  | x :: l, a, b, hn, ha, hb, he => by
    rw [List.map_cons, List.nodup_cons] at hn
    rcases List.mem_cons.1 ha with rfl | ha' <;> rcases List.mem_cons.1 hb with rfl | hb'
    · rfl
    · exact absurd (he ▸ List.mem_map.2 ⟨b, hb', rfl⟩) hn.1
    · exact absurd (he ▸ List.mem_map.2 ⟨a, ha', rfl⟩) hn.1
    · exact nodup_inj hn.2 ha' hb' he

theorem str_of {μ : Mu} {m : List Nat} {v : Value} (h : VR μ (.str m) v) : ∃ s, v = .string s ∧ m = bytesL s := by
  generalize hm : AV.str m = q at h
  cases h <;> try (cases hm; done)
  simp only [AV.str.injEq] at hm
  exact ⟨_, rfl, hm⟩

theorem scal_same {μ : Mu} : ∀ {a b : List AV} {x : List Value} {r r' : Bool}, eqScalars a a = some r → eqScalars b b = some r' → VRL μ a x → VRL μ b x → a = b
  | [], _, _, _, _, _, _, h1, h2 => by cases h1; cases h2; rfl
  | .int k m :: a, _, _, _, _, h, h', .cons h1 h2, h3 => by
    simp only [eqScalars, if_true, (intEq_iff m m).2 rfl, cond_true] at h
    cases h1
    cases h3 with | cons h3 h4 =>
    cases h3
    · simp only [eqScalars, if_true, (intEq_iff m m).2 rfl, cond_true] at h'
      rw [scal_same h h' h2 h4]
    · simp [eqScalars] at h'
  | .str m :: a, _, _, _, _, h, h', .cons h1 h2, h3 => by
    simp only [eqScalars, (natsEq_iff m m).2 rfl, cond_true] at h
    obtain ⟨s, rfl, rfl⟩ := str_of h1
    cases h3 with | cons h3 h4 =>
    cases h3
    · simp only [eqScalars, (natsEq_iff (bytesL s) (bytesL s)).2 rfl, cond_true] at h'
      rw [scal_same h h' h2 h4]
    · simp [eqScalars] at h'
  | .bool m :: a, _, _, _, _, h, h', .cons h1 h2, h3 => by
    simp only [eqScalars, (boolEq_iff m m).2 rfl, cond_true] at h
    cases h1
    cases h3 with | cons h3 h4 =>
    cases h3
    · simp only [eqScalars, (boolEq_iff m m).2 rfl, cond_true] at h'
      rw [scal_same h h' h2 h4]
    · simp [eqScalars] at h'
  | .ptr .. :: _, _, _, _, _, h, _, _, _ => by simp [eqScalars] at h
  | .nilPtr :: _, _, _, _, _, h, _, _, _ => by simp [eqScalars] at h
  | .slice .. :: _, _, _, _, _, h, _, _, _ => by simp [eqScalars] at h
  | .nilSlice :: _, _, _, _, _, h, _, _, _ => by simp [eqScalars] at h
  | .map .. :: _, _, _, _, _, h, _, _, _ => by simp [eqScalars] at h
  | .nilMap :: _, _, _, _, _, h, _, _, _ => by simp [eqScalars] at h
  | .func .. :: _, _, _, _, _, h, _, _, _ => by simp [eqScalars] at h
  | .yld .. :: _, _, _, _, _, h, _, _, _ => by simp [eqScalars] at h
  | .nilFunc :: _, _, _, _, _, h, _, _, _ => by simp [eqScalars] at h
  | .iface .. :: _, _, _, _, _, h, _, _, _ => by simp [eqScalars] at h
  | .nilIface :: _, _, _, _, _, h, _, _, _ => by simp [eqScalars] at h
  | .agg .. :: _, _, _, _, _, h, _, _, _ => by simp [eqScalars] at h
  | .tup .. :: _, _, _, _, _, h, _, _, _ => by simp [eqScalars] at h
  | .empty :: _, _, _, _, _, h, _, _, _ => by simp [eqScalars] at h
  | .junk :: _, _, _, _, _, h, _, _, _ => by simp [eqScalars] at h

theorem key_same {μ : Mu} {k a : AV} {v : Value} (h : ∃ r, keyEq k k = some r) (h' : ∃ r, keyEq a a = some r) (hk : VR μ k v) (ha : VR μ a v) : k = a := by
  obtain ⟨r, h⟩ := h
  obtain ⟨r', h'⟩ := h'
  cases k <;> simp only [keyEq] at h <;> try (cases h; done)
  · cases hk; cases ha
    · rfl
    · simp [keyEq] at h'
  · cases hk; cases ha
    · rfl
    · simp [keyEq] at h'
  · obtain ⟨s, rfl, rfl⟩ := str_of hk
    cases ha
    · rfl
    · simp [keyEq] at h'
  · cases hk with | agg hk =>
    cases ha with
    | agg ha => simp only [keyEq] at h'; rw [scal_same h h' hk ha]
    | junk => simp [keyEq] at h'

theorem ER.filter {μ : Mu} {f : AV × AV → Bool} {g : MapEntry → Bool} {es : List (AV × AV)} {l : List MapEntry} (h : ER μ es l) :
    ∀ (A0 : List (AV × AV)) (A0' : List MapEntry), ER μ A0 A0' →
    (∀ A k u B A' en B', A0 ++ es = A ++ (k, u) :: B → A0' ++ l = A' ++ en :: B' → ER μ A A' → ER μ B B' → VR μ k en.key → VR μ u en.val → f (k, u) = g en) →
    ER μ (es.filter f) (l.filter g) := by
  induction h with
  | nil => intro _ _ _ _; exact .nil
  | cons h1 h2 h3 ih =>
    rename_i k v e es l
    intro A0 A0' h0 hf
    have hfg : f (k, v) = g e := hf A0 k v es A0' e l rfl rfl h0 h3 h1 h2
    have ih' := ih (A0 ++ [(k, v)]) (A0' ++ [e]) (h0.append (.cons h1 h2 .nil)) (fun A k2 u B A' en B' e1 e2 => hf A k2 u B A' en B' (by simpa using e1) (by simpa using e2))
    rw [List.filter_cons, List.filter_cons, hfg]
    split
    · exact .cons h1 h2 ih'
    · exact ih'

theorem isKey_iff {k a : AV} : isKey k a = true ↔ keyEq k a = some true := by
  unfold isKey
  cases h : keyEq k a with
  | none => simp
  | some b => simp

/-- what is still to come of a map -/
theorem left_ok {μ : Mu} {es : List (AV × AV)} {es' : Array MapEntry} {clock : Nat} {sb : Array Nat} {seen : List AV} (hm : MapR μ es es' clock) (hs : SeenR μ es' sb seen) :
    ∃ l, l.Perm (es'.filter fun e => !sb.contains e.born).toList ∧ ER μ (es.filter (seenK seen)) l := by
  obtain ⟨l, hp, her⟩ := hm.ex
  obtain ⟨ls, s1, s2, s3, s4⟩ := hs
  refine ⟨l.filter fun e => !sb.contains e.born, ?_, her.filter [] [] .nil ?_⟩
  · rw [Array.toList_filter]; exact hp.filter _
  · intro A k u B A' en B' e1 e2 q1 q2 q3 q4
    simp only [List.nil_append] at e1 e2
    have hxs : ∃ r, keyEq k k = some r := hm.self (k, u) (by rw [e1]; simp)
    have hen : en ∈ es'.toList := hp.mem_iff.1 (by rw [e2]; simp)
    have hmem : ∀ n, sb.contains n = true ↔ ∃ e2 ∈ ls, e2.born = n := by
      intro n
      rw [Array.contains_iff_mem, ← Array.mem_toList_iff, ← List.mem_reverse, s2, List.mem_map]
    unfold seenK
    congr 1
    rw [Bool.eq_iff_iff, List.any_eq_true, hmem]
    constructor
    · rintro ⟨k2, hk2, hik⟩
      have hkk : k2 = k := keyEq_true (isKey_iff.1 hik)
      subst hkk
      obtain ⟨i, hi⟩ := List.mem_iff_getElem?.1 hk2
      obtain ⟨y, hy, hr⟩ := s3.get i hi
      rw [List.getElem?_map, Option.map_eq_some_iff] at hy
      obtain ⟨e3, he3, rfl⟩ := hy
      have he3m := List.mem_of_getElem? he3
      refine ⟨e3, he3m, ?_⟩
      have he3l : e3 ∈ l := hp.mem_iff.2 (s1 e3 he3m)
      have hap := hm.apart
      rw [e1, List.pairwise_append, List.pairwise_cons] at hap
      obtain ⟨_, ⟨p2, _⟩, p3⟩ := hap
      have contra : ∀ x ∈ es, VR μ x.1 e3.key → (keyEq k2 x.1 = some false) → False := by
        intro x hx hxr hxf
        have : k2 = x.1 := key_same hxs (hm.self x hx) hr hxr
        rw [← this] at hxf
        cases keyEq_refl hxf
      rw [e2] at he3l
      rcases List.mem_append.1 he3l with h1 | h1
      · obtain ⟨x, hx, hx1, _⟩ := q1.mem e3 h1
        exact (contra x (by rw [e1]; simp [hx]) hx1 (keyEq_comm (p3 x hx (k2, u) (by simp)))).elim
      · rcases List.mem_cons.1 h1 with rfl | h1
        · rfl
        · obtain ⟨x, hx, hx1, _⟩ := q2.mem e3 h1
          exact (contra x (by rw [e1]; simp [hx]) hx1 (p2 x hx)).elim
    · rintro ⟨e3, he3, hb⟩
      obtain ⟨i, hi⟩ := List.mem_iff_getElem?.1 he3
      have hlen : seen.length = ls.length := by have := s3.length; simpa using this
      have hlt := (List.getElem?_eq_some_iff.1 hi).1
      have hlt2 : i < seen.length := by omega
      obtain ⟨y, hy, hr⟩ := s3.get i (List.getElem?_eq_getElem hlt2)
      rw [List.getElem?_map, hi] at hy
      simp only [Option.map_some, Option.some.injEq] at hy
      subst hy
      have : e3 = en := by
        have hnd := hm.born
        exact nodup_inj hnd (s1 e3 he3) hen hb
      subst this
      have hkk := key_same (s4 _ (List.getElem_mem hlt2)) hxs hr q3
      refine ⟨_, List.getElem_mem hlt2, ?_⟩
      rw [hkk, isKey_iff]
      obtain ⟨r, hr2⟩ := hxs
      rw [hr2, keyEq_refl hr2]

theorem bytes_at {s : ByteArray} {pos c : Nat} (h : nth (bytesL s) pos = some c) : pos < s.size ∧ (s.get! pos).toNat = c := by
  rw [nth_eq] at h
  simp only [bytesL, List.getElem?_map, Array.getElem?_toList, Option.map_eq_some_iff] at h
  obtain ⟨u, hu, rfl⟩ := h
  obtain ⟨hlt, hu2⟩ := Array.getElem?_eq_some_iff.1 hu
  refine ⟨hlt, ?_⟩
  have : s.get! pos = s.data[pos]! := by cases s; rfl
  rw [this, getElem!_pos s.data pos hlt, hu2]

theorem bytes_none {s : ByteArray} {pos : Nat} (h : nth (bytesL s) pos = none) : ¬ pos < s.size := by
  rw [nth_eq] at h
  simp only [bytesL, List.getElem?_map, Array.getElem?_toList, Option.map_eq_none_iff, Array.getElem?_eq_none_iff] at h
  exact Nat.not_lt.2 h

theorem overA_ok {E : Env} {O : Own} {μ : Mu} {h : Heap} {w w' : World} (r : HRel E O μ h w'.heap) (hs : Step O w w') {m : Sem Value} {P : Program} (hr : m.run P w = .ok (.tuple #[.bool false]) w') :
    Leads (overA h) fun y => ∃ v, y.1 = .val v ∧ ∃ v' w', m.run P w = .ok v' w' ∧ VR μ v v' ∧ PutR E O μ w w' y.2 ∧ y.2.next = h.next :=
  .ret ⟨_, rfl, _, w', hr, .tup (.cons (.bool _) .nil), ⟨hs, r⟩, rfl⟩

theorem nextStr_ok {E : Env} {P : Program} {O : Own} {μ : Mu} {h : Heap} {w : World} (r : HRel E O μ h w.heap) {b pos : Nat} {p : Pl} {s : ByteArray} (hb : h.get b = some (.strIter (bytesL s) pos)) (hm : μ b = some p)
    (hz : p.sh = 0) (h1 : w.heap[p.blk]? = some (.stringIter s pos)) (ty : TypeId) :
    Leads (nextStr b (bytesL s) pos h) fun y => ∃ v, y.1 = .val v ∧ ∃ v' w', (Instr.next (.pointer (some ⟨p.blk, 0, none⟩)) true ty).run P w = .ok v' w' ∧ VR μ v v' ∧ PutR E O μ w w' y.2 ∧ y.2.next = h.next := by
  have hg : (getObj p.blk).run P w = .ok (.stringIter s pos) w := run_getObj h1 (fun _ _ _ hh => by cases hh)
  unfold nextStr
  cases hn : nth (bytesL s) pos with
  | none =>
    refine overA_ok r (Step.refl O w) ?_
    simp [Instr.next, hg, bytes_none hn]
  | some c =>
    obtain ⟨hlt, hc⟩ := bytes_at hn
    apply guard_leads
    intro h128
    have h128 : c < 128 := (blt_iff _ _).1 h128
    have hd : Utf8.decode s pos = (c, 1) := by
      unfold Utf8.decode
      simp only [Nat.add_zero, hc]
      rw [if_pos h128]
    refine .ret ⟨_, rfl, _, { w with heap := w.heap.setIfInBounds p.blk (.stringIter s (pos + 1)) }, ?_, .tup (.cons (.bool _) (.cons (.int _ _) (.cons (.int _ _) .nil))), ⟨step_set (r.own b _ p hb rfl hm), ?_⟩, rfl⟩
    · have hs := run_setObj (P := P) (ob := .stringIter s (pos + 1)) h1 (fun _ _ _ hh => by cases hh)
      simp only [Instr.next, Sem.run_bind, hg, Result.andThen_ok, hlt, if_true, hd, hs, Sem.run_pure]
      rfl
    · exact r.put hb hm rfl rfl (.str hz)

def nextStep (b : Nat) (o : Obj) (e : MapEntry) : Sem Value := do
  setObj b o
  pure (.tuple #[.bool true, e.key, e.val])
def nextPick (b m since : Nat) (sb : Array Nat) (L : Array MapEntry) : Sem Value := do
  match ((if L.isEmpty then #[none] else #[]) ++ L.map some)[← choose (.mapNext ((if L.isEmpty then #[none] else #[]) ++ L.map some).size)]? with
  | some (some e) => nextStep b (.mapIter (some m) since (sb.push e.born) since) e
  | some none => pure (.tuple #[.bool false])
  | none => stuck "Next: no such candidate"

theorem nextMap_ok {E : Env} {P : Program} {O : Own} {μ : Mu} {h : Heap} {w : World} (r : HRel E O μ h w.heap) {b m mods : Nat} {seen : List AV} {p pm : Pl} {since stepped : Nat} {sb : Array Nat}
    (hb : h.get b = some (.mapIter (some m) mods seen)) (hm : μ b = some p) (hpm : μ m = some pm)
    (hz : p.sh = 0) (h1 : w.heap[p.blk]? = some (.mapIter (some pm.blk) since sb stepped)) (ty : TypeId) :
    Leads (nextMap b m mods seen h) fun y => ∃ v, y.1 = .val v ∧ ∃ v' w', (Instr.next (.pointer (some ⟨p.blk, 0, none⟩)) false ty).run P w = .ok v' w' ∧ VR μ v v' ∧ PutR E O μ w w' y.2 ∧ y.2.next = h.next := by
  have hg : (getObj p.blk).run P w = .ok (.mapIter (some pm.blk) since sb stepped) w := run_getObj h1 (fun _ _ _ hh => by cases hh)
  unfold nextMap
  cases hma : h.mapAt m with
  | none => exact .bad
  | some em =>
    obtain ⟨es, mo⟩ := em
    apply guard_leads
    intro hmo
    have hmo : mo = mods := Nat.eq_of_beq_eq_true hmo
    subst hmo
    have hget := mapAt_get hma
    obtain ⟨es', clock, g1, hmr⟩ := r.map hget hpm
    have hg2 : (getObj pm.blk).run P w = .ok (.map es' clock) w := run_getObj g1 (fun _ _ _ hh => by cases hh)
    obtain ⟨rfl, hst, hseen⟩ := (r.iter b m mo seen p pm es mo hb hget hm hpm).2 rfl es' clock since sb stepped g1 h1
    obtain ⟨l, hperm, her⟩ := left_ok hmr hseen
    have hold : ∀ e ∈ es'.toList, e.born < since := hmr.old
    have hck : ((!sb.isEmpty && !es'.isEmpty && es'.all (·.born ≥ stepped)) = true) ↔ False := by
      refine ⟨fun hh => ?_, False.elim⟩
      simp only [Bool.and_eq_true, Bool.not_eq_true', Array.isEmpty_eq_false_iff] at hh
      obtain ⟨⟨e1, e2⟩, e3⟩ := hh
      have hs : seen ≠ [] := by
        obtain ⟨ls, _, s2, s3, _⟩ := hseen
        intro hs
        subst hs
        have hl := s3.length
        simp only [List.length_nil, List.length_map] at hl
        have : ls = [] := List.length_eq_zero_iff.1 hl.symm
        subst this
        simp only [List.map_nil, List.reverse_eq_nil_iff, Array.toList_eq_nil_iff] at s2
        exact e1 s2
      have := hst hs
      subst this
      rw [Array.all_eq_true] at e3
      have hpos : 0 < es'.size := Array.size_pos_iff.2 e2
      have h0 := e3 0 hpos
      have h2 := hold es'[0] (Array.getElem_mem_toList hpos)
      simp only [ge_iff_le, decide_eq_true_eq] at h0
      omega
    have hleft : ∀ e ∈ (es'.filter fun e => !sb.contains e.born), e.born < since := fun e he => hold e (Array.mem_toList_iff.2 (Array.mem_filter.1 he).1)
    have ho : ((es'.filter fun e => !sb.contains e.born).filter (·.born < since)) = es'.filter fun e => !sb.contains e.born := by
      apply Array.filter_eq_self.2
      intro e he
      simpa using hleft e he
    have hn : ((es'.filter fun e => !sb.contains e.born).filter (·.born ≥ since)) = #[] := by
      apply Array.filter_eq_empty_iff.2
      intro e he
      have := hleft e he
      simp; omega
    generalize hL : (es'.filter fun e => !sb.contains e.born) = L at *
    have hrun : ∀ z, (Instr.next (.pointer (some ⟨p.blk, 0, none⟩)) false ty).run P w = z ↔
        (nextPick p.blk pm.blk since sb L).run P w = z := by
      intro z
      unfold Instr.next
      simp only [Sem.run_bind, hg, Result.andThen_ok, hg2]
      rw [if_neg (by rw [hck]; exact id)]
      simp only [hL, ho, hn, Array.append_empty, Sem.run_bind, nextPick, nextStep]
      refine Iff.of_eq (congrArg (· = z) ?_)
      congr 1
    have hlen : (es.filter (seenK seen)).length = L.size := by rw [her.length, hperm.length_eq, Array.length_toList]
    have main : ∀ i (hi : i < L.size), ∃ (j : Nat) (x : AV × AV), (es.filter (seenK seen))[j]? = some x ∧ ∀ w1 : World, w1.heap = w.heap → w1.tape = w.tape → w1.os = w.os → w1.output = w.output →
        (∀ z, (Instr.next (.pointer (some ⟨p.blk, 0, none⟩)) false ty).run P w = z ↔ (nextStep p.blk (.mapIter (some pm.blk) since (sb.push L[i].born) since) L[i]).run P w1 = z) →
        Leads (nextAt b m mo seen (some x) h) fun y => ∃ v, y.1 = .val v ∧ ∃ v' w', (Instr.next (.pointer (some ⟨p.blk, 0, none⟩)) false ty).run P w = .ok v' w' ∧ VR μ v v' ∧ PutR E O μ w w' y.2 ∧ y.2.next = h.next := by
      intro i hi
      have hmem : L[i] ∈ l := hperm.mem_iff.2 (Array.getElem_mem_toList hi)
      obtain ⟨j, hj⟩ := List.mem_iff_getElem?.1 hmem
      obtain ⟨A, k, u, B, A', B', e1, e2, q1, q2, q3, q4⟩ := her.split hmem
      refine ⟨A.length, (k, u), by rw [e1]; simp, fun w1 a1 a2 a3 a4 hz1 => ?_⟩
      have h1' : w1.heap[p.blk]? = some (.mapIter (some pm.blk) since sb stepped) := by rw [a1]; exact h1
      refine .ret ⟨_, rfl, _, { w1 with heap := w1.heap.setIfInBounds p.blk (.mapIter (some pm.blk) since (sb.push L[i].born) since) }, ?_, .tup (.cons (.bool _) (.cons q3 (.cons q4 .nil))), ⟨?_, ?_⟩, rfl⟩
      · rw [hz1]
        have hs := run_setObj (P := P) (ob := .mapIter (some pm.blk) since (sb.push L[i].born) since) h1' (fun _ _ _ hh => by cases hh)
        simp only [nextStep, Sem.run_bind, hs, Result.andThen_ok, Sem.run_pure]
      · have := step_set (O := O) (w := w) (b := p.blk) (ob := .mapIter (some pm.blk) since (sb.push L[i].born) since) (r.own b _ p hb rfl hm)
        exact ⟨fun c hc => by rw [a1]; exact this.keep c hc, by simp [a1], by rw [← this.tape]; exact a2, by rw [← this.os]; exact a3, by rw [← this.output]; exact a4⟩
      · simp only [a1]
        refine r.putIter hb hm h1 hpm hz hget g1 ?_
        obtain ⟨ls, s1, s2, s3, s4⟩ := hseen
        have hx : (k, u) ∈ es.filter (seenK seen) := by rw [e1]; simp
        have hLm : L[i] ∈ es'.toList := by
          have : L[i] ∈ es'.filter fun e => !sb.contains e.born := by rw [hL]; exact Array.getElem_mem hi
          exact Array.mem_toList_iff.2 (Array.mem_filter.1 this).1
        refine ⟨L[i] :: ls, ?_, ?_, .cons q3 s3, ?_⟩
        · intro e he
          rcases List.mem_cons.1 he with rfl | he
          · exact hLm
          · exact s1 e he
        · rw [Array.toList_push, List.reverse_append, s2]; rfl
        · intro k2 hk2
          rcases List.mem_cons.1 hk2 with rfl | hk2
          · exact hmr.self (k2, u) (List.mem_filter.1 hx).1
          · exact s4 k2 hk2
    have hpick : ∀ (i : Nat) (hi : i < L.size) (w1 : World), (choose (.mapNext L.size)).run P w = .ok i w1 →
        (nextPick p.blk pm.blk since sb L).run P w = (nextStep p.blk (.mapIter (some pm.blk) since (sb.push L[i].born) since) L[i]).run P w1 := by
      intro i hi w1 hc
      have he : L.isEmpty = false := by simp only [Array.isEmpty_eq_false_iff]; intro h0; rw [h0] at hi; simp at hi
      have hcand : ((if L.isEmpty then #[none] else #[]) ++ L.map some : Array (Option MapEntry)) = L.map some := by rw [he]; simp
      unfold nextPick
      rw [hcand]
      simp only [Array.size_map, Sem.run_bind, hc, Result.andThen_ok]
      have hget2 : (L.map some)[i]? = some (some L[i]) := by simp [hi]
      rw [hget2]
    unfold nextOf
    split
    · rename_i heq
      rw [heq] at hlen
      have h0 : L = #[] := Array.size_eq_zero_iff.1 (by simpa using hlen.symm)
      refine overA_ok r (Step.refl O w) ((hrun _).2 ?_)
      subst h0
      simp [nextPick, Question.forced]
    · rename_i e heq
      rw [heq] at hlen
      have h1s : L.size = 1 := by simpa using hlen.symm
      have hi : 0 < L.size := by omega
      obtain ⟨j, x, hx, hlead⟩ := main 0 hi
      have hxe : x = e := by
        rw [heq] at hx
        cases j with
        | zero => simpa using hx.symm
        | succ j => simp at hx
      subst hxe
      have hc : (choose (.mapNext L.size)).run P w = .ok 0 w := by rw [h1s]; simp [Question.forced]
      exact hlead w rfl rfl rfl rfl (fun z => by rw [hrun, hpick 0 hi w hc])
    · rename_i hne1 hne2
      have h2s : 2 ≤ L.size := by
        rw [← hlen]
        generalize es.filter (seenK seen) = q at hne1 hne2
        match q with
        | [] => exact absurd rfl hne1
        | [e] => exact absurd rfl (hne2 e)
        | _ :: _ :: q => simp
      have hi : w.tape w.drawn (.mapNext L.size) % L.size < L.size := Nat.mod_lt _ (by omega)
      obtain ⟨j, x, hx, hlead⟩ := main _ hi
      have hc : (choose (.mapNext L.size)).run P w = .ok (w.tape w.drawn (.mapNext L.size) % L.size) { w with drawn := w.drawn + 1 } := by
        rw [run_choose, if_neg (by simp [Question.forced]; omega)]; rfl
      refine .pick j (by rw [len_eq]; exact (List.getElem?_eq_some_iff.1 hx).1) ?_
      rw [nth_eq, hx]
      exact hlead { w with drawn := w.drawn + 1 } rfl rfl rfl rfl (fun z => by rw [hrun, hpick _ hi _ hc])

theorem next_ok {E : Env} {P : Program} {O : Own} {μ : Mu} {h : Heap} {w : World} (r : HRel E O μ h w.heap) {x : AV} {x' : Value} (hx : VR μ x x') (s : Bool) (ty : TypeId) :
    Leads (nextA x s h) fun y => ∃ v, y.1 = .val v ∧ ∃ v' w', (Instr.next x' s ty).run P w = .ok v' w' ∧ VR μ v v' ∧ PutR E O μ w w' y.2 ∧ y.2.next = h.next := by
  unfold nextA
  split
  · rename_i b
    cases hx with | ptr hp =>
    rename_i p
    cases hb : h.get b with
    | none => exact .bad
    | some o =>
      obtain ⟨ob, h1, hor⟩ := r.at hb hp
      unfold nextO
      cases hor with
      | str hz =>
        apply guard_leads
        rintro rfl
        rw [hz]
        exact nextStr_ok r hb hp hz h1 ty
      | noIter hz =>
        cases s with
        | true => exact .bad
        | false =>
          rw [hz]
          refine overA_ok r (Step.refl O w) ?_
          have hg := run_getObj (P := P) h1 (fun _ _ _ hh => by cases hh)
          simp [Instr.next, hg]
      | iter hz hpm =>
        cases s with
        | true => exact .bad
        | false => rw [hz]; exact nextMap_ok r hb hp hpm hz h1 ty
      | _ => exact .bad
  · exact .bad

end Go.Ab
end
section
namespace Go.Ab

theorem entry_ok {E : Env} {P : Program} {O : Own} {μ : Mu} {h : Heap} {w : World} (r : HRel E O μ h w.heap) {x v : AV} {x' : Value} (hx : VR μ x x') (he : entryA x h = some v) :
    ∃ v', (Instr.entry x').run P w = .ok v' w ∧ VR μ v v' := by
  unfold entryA at he
  split at he
  · rename_i b
    cases hx with | ptr hp =>
    rename_i p
    cases hb : h.get b with
    | none => rw [hb] at he; cases he
    | some o =>
      rw [hb] at he
      simp only [Option.bind_some] at he
      obtain ⟨ob, h1, hor⟩ := r.at hb hp
      unfold entryO at he
      split at he
      · rename_i m mods k rest
        cases hor with | iter hz hpm =>
        rename_i pm since sb stepped
        cases hma : h.mapAt m with
        | none => rw [hma] at he; cases he
        | some em =>
          obtain ⟨es, mo⟩ := em
          simp only [hma] at he
          obtain ⟨hmo, he2⟩ := guard_some he
          clear he
          have hmo : mo = mods := Nat.eq_of_beq_eq_true hmo
          subst hmo
          have hget := mapAt_get hma
          obtain ⟨es', clock, g1, hmr⟩ := r.map hget hpm
          obtain ⟨rfl, hst, ls, s1, s2, s3, s4⟩ := (r.iter b m mo (k :: rest) p pm es mo hb hget hp hpm).2 rfl es' clock since sb stepped g1 h1
          have hst := hst (by simp)
          subst hst
          cases hle : lookupE k es with
          | none => rw [hle] at he2; cases he2
          | some o2 =>
            cases o2 with
            | none => rw [hle] at he2; cases he2
            | some v0 =>
              rw [hle] at he2
              simp only [Option.bind_some, Option.map_some, Option.some.injEq] at he2
              subst he2
              cases ls with
              | nil => cases s3
              | cons e0 ls =>
                cases s3 with | cons q1 q2 =>
                have he0 : e0 ∈ es'.toList := s1 e0 (by simp)
                have hback : sb.back? = some e0.born := by
                  have : sb.toList = (ls.map (·.born)).reverse ++ [e0.born] := by
                    have := congrArg List.reverse s2
                    simpa using this
                  rw [← Array.getLast?_toList, this]; simp
                have hfind : es'.find? (·.born == e0.born) = some e0 := by
                  have hs : (es'.toList.find? (·.born == e0.born)) = some e0 := by
                    cases hf : es'.toList.find? (·.born == e0.born) with
                    | none =>
                      have := List.find?_eq_none.1 hf e0 he0
                      simp at this
                    | some e1 =>
                      have h2 := List.mem_of_find?_eq_some hf
                      have h3 := List.find?_some hf
                      simp only [beq_iff_eq] at h3
                      rw [nodup_inj hmr.born h2 he0 h3]
                  rw [← hs]; simp
                obtain ⟨l, hperm, her⟩ := hmr.ex
                obtain ⟨⟨k2, u⟩, hx2, hx3, hx4⟩ := her.mem e0 (hperm.mem_iff.2 he0)
                have hkk : k2 = k := key_same (hmr.self _ hx2) (s4 k (by simp)) hx3 q1
                subst hkk
                obtain ⟨_, _, hmem⟩ := lookupE_all hmr.apart hle
                have hvu : v0 = u := by
                  obtain ⟨r2, hr2⟩ := s4 k2 (by simp)
                  exact apart_unique hmr.apart (hmem v0 rfl) hx2 (by rw [hr2, keyEq_refl hr2])
                subst hvu
                have hg := run_getObj (P := P) h1 (fun _ _ _ hh => by cases hh)
                have hg2 := run_getObj (P := P) g1 (fun _ _ _ hh => by cases hh)
                refine ⟨.tuple #[e0.key, e0.val], ?_, .tup (.cons q1 (.cons hx4 .nil))⟩
                rw [hz]
                simp [Instr.entry, hg, hg2, hback, hfind]
      · cases he
  · cases he

/-! appends -/
theorem first_ok {P : Program} {E : Env} {O : Own} {μ : Mu} {h : Heap} {w : World} (r : HRel E O μ h w.heap) {size n : Nat} {x : AV} {x' : Value} {l : List AV} (hx : VR μ x x') (hf : firstA size n h x = some l) :
    ∃ l', VRL μ l l' ∧ (Builtin.firstCells size n x').run P w = .ok l'.toArray w := by
  unfold firstA at hf
  split at hf
  · simp only [Option.some.injEq] at hf; subst hf
    cases hx
    exact ⟨[], .nil, by simp [Builtin.firstCells]⟩
  · obtain ⟨hn, hf2⟩ := guard_some hf
    clear hf
    simp only [Option.some.injEq] at hf2; subst hf2
    have hn : n = 0 := Nat.eq_of_beq_eq_true hn
    subst hn
    cases hx
    exact ⟨[], .nil, by simp [Builtin.firstCells, loadCells, loadCellsFrom]⟩
  · rename_i s
    obtain ⟨s, rfl, rfl⟩ := str_of hx
    obtain ⟨_, hf⟩ := guard_some hf
    cases hc : cut (bytesL s) 0 n with
    | none => rw [hc] at hf; cases hf
    | some q =>
      rw [hc] at hf
      simp only [Option.map_some, Option.some.injEq] at hf
      subst hf
      obtain ⟨c1, c2⟩ := cut_eq 0 (bytesL s) n q hc
      simp only [List.drop_zero] at c2
      have hq : q = ((s.data.toList.take n).map (·.toNat)) := by rw [c2]; simp [bytesL]
      refine ⟨(s.data.toList.take n).map fun b => Value.int .u8 (b.toNat : Int), by rw [hq]; exact toBytes_rel μ _, ?_⟩
      simp only [Builtin.firstCells, Sem.run_pure]
      congr 1
      apply Array.toList_inj.1
      simp [ByteArray.data_extract]
  · rename_i b off ln cap op
    cases hc : h.cells b with
    | none => rw [hc] at hf; cases hf
    | some ceo =>
      obtain ⟨c, e, o⟩ := ceo
      rw [hc] at hf
      simp only [Option.bind_some] at hf
      cases hx with | slice hp hop =>
      obtain ⟨pre, mid, post, fr, hca, _⟩ := r.cells hc hp
      obtain ⟨r', h1, h2⟩ := loadCells_ok (P := P) hca.toCellsO hf
      exact ⟨r', h1, by simp only [Builtin.firstCells]; exact h2⟩
  · cases hf

theorem first_len {size n : Nat} {h : Heap} {x : AV} {l : List AV} (hl : lenOfA x = some n) (hf : firstA size n h x = some l) : l.length = n * size := by
  unfold firstA at hf
  split at hf
  · simp only [lenOfA, Option.some.injEq] at hl hf; subst hl; subst hf; simp
  · obtain ⟨_, hf2⟩ := guard_some hf
    clear hf
    simp only [lenOfA, Option.some.injEq] at hl hf2; subst hl; subst hf2; simp
  · rename_i s
    obtain ⟨h1, hf2⟩ := guard_some hf
    clear hf
    have h1 : size = 1 := Nat.eq_of_beq_eq_true h1
    subst h1
    cases hc : cut s 0 n with
    | none => rw [hc] at hf2; cases hf2
    | some q =>
      rw [hc] at hf2
      simp only [Option.map_some, Option.some.injEq] at hf2
      subst hf2
      obtain ⟨c1, c2⟩ := cut_eq 0 s n q hc
      rw [c2]; simp [toBytes]; omega
  · rename_i b off ln cap op
    cases hc : h.cells b with
    | none => rw [hc] at hf; cases hf
    | some ceo =>
      rw [hc] at hf
      simp only [Option.bind_some] at hf
      obtain ⟨_, _, _, _, h3⟩ := cut_parts hf
      exact h3
  · cases hf

theorem lenOf_ok {P : Program} {μ : Mu} {w : World} {x : AV} {x' : Value} {n : Nat} (hx : VR μ x x') (hf : lenOfA x = some n) : (Builtin.lenOf x').run P w = .ok n w := by
  unfold lenOfA at hf
  split at hf
  · simp only [Option.some.injEq] at hf; subst hf
    cases hx; simp [Builtin.lenOf]
  · simp only [Option.some.injEq] at hf; subst hf
    cases hx; simp [Builtin.lenOf]
  · simp only [Option.some.injEq] at hf; subst hf
    cases hx; simp [Builtin.lenOf]
  · rename_i s
    simp only [Option.some.injEq] at hf; subst hf
    obtain ⟨s, rfl, rfl⟩ := str_of hx
    rw [len_bytes]; simp [Builtin.lenOf]
  · cases hf

end Go.Ab
end
section
namespace Go.Ab

/-- what the model's append comes to, behind its questions about the arguments -/
def appendRun (bytes size n : Nat) (base : Option Addr) (sLen sCap : Nat) (e : TypeId) (app : Sem (Array Value)) : Sem Value :=
  if sLen + n ≤ sCap then do
    let new ← app
    if let some a := base then storeCells (a.add (sLen * size)) new.toList
    pure (.slice base (sLen + n) sCap)
  else do
    let newCap ← choose (.appendCap (sLen + n) sCap e)
    askRoom (newCap * bytes)
    let old ← Builtin.firstCells size sLen (.slice base sLen sCap)
    let new ← app
    let rest := Builtin.zeroCells (← zeroValue e).cells (newCap - (sLen + n))
    pure (.slice (some (← newRow e (old ++ new ++ rest))) (sLen + n) newCap)

def appended (z : Bool) (size n : Nat) (e : TypeId) (x : Value) : Sem (Array Value) :=
  if !z then Builtin.firstCells size n x
  else if n * size = 0 then pure #[]
  else do pure (Builtin.zeroCells (← zeroValue e).cells n)

section
variable {E : Env} {P : Program} (ok : EnvOk E P)
include ok

theorem append_norm {w : World} {t e ty : TypeId} {ti : TypeInfo} {ts : Array TypeId} {args : Array Value} {xt : Option TypeId} {z : Bool} {base : Option Addr} {sLen sCap n : Nat} {x' : Value}
    (ht : ts[0]? = some t) (hxt : ts[1]? = xt) (ha : args[0]? = some (.slice base sLen sCap)) (hb : args[1]? = some x') (hu : E.under t = some (.slice e)) (hti : E.tt.get none e = some ti)
    (hz : E.isNum xt = some z) (hl : z = false → (Builtin.lenOf x').run P w = .ok n w) (hi : z = true → ∃ k, x' = .int k (n : Int)) (h40 : sLen + n ≤ 1099511627776) (h47 : (sLen + n) * ti.bytes ≤ 140737488355328) :
    (Builtin.append_ ts ty args).run P w = (appendRun ti.bytes ti.size n base sLen sCap e (appended z ti.size n e x')).run P w := by
  have hsz : (sizeOf e).run P w = .ok ti.size w := size_ok ok (by unfold Env.size; rw [hti]; rfl) w
  have hinfo : ∀ w, (typeInfo e).run P w = .ok ti w := info_ok ok hti
  have hund := runUnder ok hu w
  have hn40 : n ≤ 1099511627776 := by omega
  have hw : IntKind.i64.wrap (n : Int) = n := wrap_lim .i64 n (by simp [lim]; omega)
  have hnb : (n : Int) * ti.bytes ≤ 140737488355328 := by
    have h1 : n * ti.bytes ≤ (sLen + n) * ti.bytes := Nat.mul_le_mul_right _ (by omega)
    have : (n : Int) * (ti.bytes : Int) = ((n * ti.bytes : Nat) : Int) := by rw [Int.natCast_mul]
    rw [this]; omega
  have hcap : ¬ ((sLen + n : Nat) : Int) > IntKind.i64.max := by have : IntKind.i64.max = 9223372036854775807 := rfl; rw [this]; omega
  have hgrow : ¬ sLen + n ≤ sCap → ¬ Builtin.nextslicecap (sLen + n) sCap * ti.bytes > 2 ^ 48 := fun hh => by
    have := growslice_fits (need := sLen + n) (old := sCap) (bytes := ti.bytes) (by omega) h47
    omega
  have hcase : z = false ∧ (ts[1]? = none ∨ ∃ u d, ts[1]? = some u ∧ E.under u = some d ∧ isIntDesc d = false) ∨ z = true ∧ ∃ u k, ts[1]? = some u ∧ E.under u = some (.int k) := by
    unfold Env.isNum at hz
    cases xt with
    | none => simp only [Option.some.injEq] at hz; exact .inl ⟨hz.symm, .inl hxt⟩
    | some u =>
      simp only at hz
      cases hd : E.under u with
      | none => rw [hd] at hz; cases hz
      | some d =>
        rw [hd] at hz
        simp only [Option.map_some, Option.some.injEq] at hz
        cases hi2 : isIntDesc d with
        | false => exact .inl ⟨by rw [← hz, hi2], .inr ⟨u, d, hxt, hd, hi2⟩⟩
        | true =>
          refine .inr ⟨by rw [← hz, hi2], ?_⟩
          cases d <;> simp [isIntDesc] at hi2
          exact ⟨u, _, hxt, hd⟩
  clear hz hxt
  rcases hcase with ⟨rfl, hc⟩ | ⟨rfl, u, k, hxt, hd⟩
  · have hlen := hl rfl
    rcases hc with hxt | ⟨u, d, hxt, hd, hi2⟩
    · simp only [Builtin.append_, ht, ha, hb, hxt, Sem.run_bind, hund, hsz, Result.andThen_ok, Sem.run_pure, Bool.false_eq_true, if_false, hlen, appendRun, appended, Bool.not_false, if_true, false_or]
      by_cases hle : sLen + n ≤ sCap
      · simp only [if_pos hle, Sem.run_bind]
        cases base <;> rfl
      · simp only [if_neg hle, Sem.run_bind, hinfo, Result.andThen_ok, if_neg (hgrow hle), if_neg (fun hh : _ ∧ _ => hcap hh.1)]
    · have hd2 := runUnder ok hd
      cases d <;> first | (simp [isIntDesc] at hi2; done) | skip
      all_goals
        simp only [Builtin.append_, ht, ha, hb, hxt, Sem.run_bind, hund, hd2, hsz, Result.andThen_ok, Sem.run_pure, Bool.false_eq_true, if_false, hlen, appendRun, appended, Bool.not_false, if_true, false_or]
        by_cases hle : sLen + n ≤ sCap
        · simp only [if_pos hle, Sem.run_bind]
          cases base <;> rfl
        · simp only [if_neg hle, Sem.run_bind, hinfo, Result.andThen_ok, if_neg (hgrow hle), if_neg (fun hh : _ ∧ _ => hcap hh.1)]
  · obtain ⟨k2, rfl⟩ := hi rfl
    have hd2 := runUnder ok hd
    have hneg : ¬ ((n : Int) < 0) := by omega
    have hbig : ¬ ((n : Int) * (ti.bytes : Int) > 2 ^ 48) := by omega
    simp only [Builtin.append_, ht, ha, hb, hxt, Sem.run_bind, hund, hd2, hsz, Result.andThen_ok, Sem.run_pure, if_true, asInt, asIntOf, hw, hneg, if_false, hinfo, hbig, Int.toNat_natCast, appendRun, appended, Bool.not_true, Bool.false_eq_true, true_or, and_true, hcap]
    by_cases hle : sLen + n ≤ sCap
    · simp only [if_pos hle, Sem.run_bind]
      cases base <;> rfl
    · simp only [if_neg hle, Sem.run_bind, hinfo, Result.andThen_ok, if_neg (hgrow hle)]

end
end Go.Ab
end
section
namespace Go.Ab

section
variable {E : Env} {O : Own} {μ : Mu} {h : Heap} {hp : Array Obj}

/-- a block gives its cells to a new one that lies where it lay -/
theorem HRel.moveTo {b id : Nat} {p q : Pl} {o o2 : AObj} {ob2 : Obj} (r : HRel E O μ h hp) (hb : h.get b = some o) (hm : μ b = some p) (hn : μ id = none) (hs2 : o2.still = true) (hos : o.owned = true) (hq : q.blk = p.blk)
    (ho2 : OR' E (μ.add id q) q o2 ob2) : HRel E O (μ.add id q) ((h.put id o2).drop b) (hp.setIfInBounds p.blk ob2) := by
  have hle : μ.le (μ.add id q) := Mu.le_add hn
  have hlt : p.blk < hp.size := r.size b p hm
  have hib : id ≠ b := by rintro rfl; rw [hm] at hn; cases hn
  have hother : ∀ c x y, c ≠ b → h.get c = some y → μ c = some x → (hp.setIfInBounds p.blk ob2)[x.blk]? = hp[x.blk]? := by
    intro c x y hc hy hx
    have : p.blk ≠ x.blk := fun e => hc (r.inj c b y o x p hy hb (.inr hos) hx hm e.symm)
    rw [Array.getElem?_setIfInBounds_ne this]
  have hget : ∀ c x, ((h.put id o2).drop b).get c = some x → (c = id ∧ x = o2) ∨ (c ≠ id ∧ c ≠ b ∧ h.get c = some x) := by
    intro c x hx
    by_cases hc : c = b
    · subst hc; rw [Heap.get_drop] at hx; cases hx
    · rw [Heap.get_drop_ne _ _ _ hc] at hx
      by_cases hi : c = id
      · subst hi; exact .inl ⟨rfl, h.get_put_some c _ hx⟩
      · rw [h.get_put_ne id c _ hi] at hx; exact .inr ⟨hi, hc, hx⟩
  have hself : ∀ x, (μ.add id q) id = some x → x = q := by intro x e; simp [Mu.add] at e; exact e.symm
  have hmu : ∀ c x, c ≠ id → (μ.add id q) c = some x → μ c = some x := by
    intro c x hc e; simpa [Mu.add, hc] using e
  refine ⟨?_, ?_, ?_, ?_, ?_, ?_, ?_, r.nro⟩
  · intro c x hx
    rcases hget c x hx with ⟨rfl, rfl⟩ | ⟨hc, hcb, hx'⟩
    · exact ⟨q, ob2, Mu.add_self, by rw [hq]; simp [hlt], ho2⟩
    · obtain ⟨y, ob, hy, hyo, hyr⟩ := r.obj c x hx'
      exact ⟨y, ob, hle _ _ hy, by rw [hother c y x hcb hx' hy]; exact hyo, hyr.mono hle⟩
  · intro c c' x x' y y' hx hx' how hy hy' e
    rcases hget c x hx with ⟨rfl, rfl⟩ | ⟨hc, hcb, hx1⟩ <;> rcases hget c' x' hx' with ⟨rfl, rfl⟩ | ⟨hc', hcb', hx1'⟩
    · rfl
    · rw [hself y hy, hq] at e
      exact absurd (r.inj b c' o x' p y' hb hx1' (.inl hos) hm (hmu c' y' hc' hy') e).symm hcb'
    · rw [hself y' hy', hq] at e
      exact absurd (r.inj c b x o y p hx1 hb (.inr hos) (hmu c y hc hy) hm e) hcb
    · exact r.inj c c' x x' y y' hx1 hx1' how (hmu c y hc hy) (hmu c' y' hc' hy') e
  · intro c x y hx how hy
    rcases hget c x hx with ⟨rfl, _⟩ | ⟨hc, _, hx'⟩
    · rw [hself y hy, hq]; exact r.own b o p hb hos hm
    · exact r.own c x y hx' how (hmu c y hc hy)
  · intro c y hy
    by_cases hc : c = id
    · subst hc; rw [hself y hy, hq]; simpa using r.size b p hm
    · simpa using r.size c y (hmu c y hc hy)
  · intro c hc; exact r.up c (by simpa using hc)
  · intro c m mods seen y pm es mo hc hmm hy hpm
    rcases hget c _ hc with ⟨rfl, hh⟩ | ⟨hcn, hcb, hc'⟩
    · subst hh; simp [AObj.still] at hs2
    · rcases hget m _ hmm with ⟨rfl, hh⟩ | ⟨hmn, hmb, hm'⟩
      · subst hh; simp [AObj.still] at hs2
      · have hi := r.iter c m mods seen y pm es mo hc' hm' (hmu c y hcn hy) (hmu m pm hmn hpm)
        refine ⟨hi.1, fun e es' clock since sb stepped h1 h2 => ?_⟩
        rw [hother m pm _ hmb hm' (hmu m pm hmn hpm)] at h1
        rw [hother c y _ hcb hc' (hmu c y hcn hy)] at h2
        obtain ⟨a, b', l, l1, l2, l3⟩ := hi.2 e es' clock since sb stepped h1 h2
        exact ⟨a, b', l, l1, l2, l3.1.mono hle, l3.2⟩
  · intro c x y hx hy
    rcases hget c _ hx with ⟨rfl, hh⟩ | ⟨hc, _, hx'⟩
    · subst hh; simp [AObj.still] at hs2
    · exact r.ro c x y hx' (hmu c y hc hy)

/-- a block of cells with room behind them, made -/
theorem openCells_rel {w : World} {c : List AV} {c' post : List Value} {e : TypeId} {id esz ext : Nat} (r : HRel E O μ h w.heap) (hn : μ id = none) (hc : VRL μ c c') (he : E.size e = some esz) (hx : ext * esz ≤ post.length) :
    HRel E O (μ.add id ⟨w.heap.size, 0, ext, c.length, esz, true⟩) (h.put id (.cells c e true)) (w.heap.push (.cells (c' ++ post).toArray e)) := by
  refine r.add hn rfl ?_ (fun m mods seen hh => by cases hh)
  have := OR'.cells (E := E) (μ := μ.add id ⟨w.heap.size, 0, ext, c.length, esz, true⟩) (p := ⟨w.heap.size, 0, ext, c.length, esz, true⟩) (c := c) (e := e) (op := true) (pre := []) (mid := c') (post := post) (fr := (0, 0))
    rfl (hc.mono (Mu.le_add hn)) (fun hh => by cases hh) rfl (fun _ => ⟨rfl, hx, he⟩) (.inl rfl)
  simpa using this
end

/-- what an append does -/
def ApR (E : Env) (O : Own) (P : Program) (μ : Mu) (id : Nat) (h : Heap) (m : Sem Value) (w : World) (y : OR × Heap) : Prop :=
  ∃ v, y.1 = .val v ∧ ∃ μ' v' w', (μ' = μ ∨ ∃ p, μ' = μ.add id p) ∧ m.run P w = .ok v' w' ∧ VR μ' v v' ∧ Step O w w' ∧ HRel E O μ' y.2 w'.heap ∧ y.2.next = h.next

section
variable {E : Env} {P : Program} (ok : EnvOk E P)
include ok

theorem new_ok {z : Bool} {size n e : Nat} {x : AV} {x' : Value} {h : Heap} {new : List AV} {μ : Mu} (hx : VR μ x x') (hnew : newCells E e size z x h = some (n, new)) :
    new.length = n * size ∧ (z = false → ∀ w, (Builtin.lenOf x').run P w = .ok n w) ∧ (z = true → ∃ k, x' = .int k (n : Int)) ∧
    ∀ (O : Own) (w : World), HRel E O μ h w.heap → ∃ new', VRL μ new new' ∧ (appended z size n e x').run P w = .ok new'.toArray w := by
  unfold newCells at hnew
  cases z with
  | false =>
    have hnew : ((lenOfA x).bind fun n => (firstA size n h x).map fun l => (n, l)) = some (n, new) := hnew
    cases hl : lenOfA x with
    | none => rw [hl] at hnew; cases hnew
    | some m =>
      rw [hl] at hnew
      simp only [Option.bind_some] at hnew
      cases hf : firstA size m h x with
      | none => rw [hf] at hnew; cases hnew
      | some l =>
        rw [hf] at hnew
        simp only [Option.map_some, Option.some.injEq, Prod.mk.injEq] at hnew
        obtain ⟨rfl, rfl⟩ := hnew
        refine ⟨first_len hl hf, fun _ w => lenOf_ok hx hl, fun hh => (by cases hh), fun O w r => ?_⟩
        obtain ⟨l', h1, h2⟩ := first_ok (P := P) r hx hf
        exact ⟨l', h1, by simpa [appended] using h2⟩
  | true =>
    have hnew : (match asN x, E.zero e with | some n, some z => Bool.rec none (some (n, rep z.cells n)) (sized z size) | _, _ => none : Option (Nat × List AV)) = some (n, new) := hnew
    cases ha : asN x with
    | none => rw [ha] at hnew; cases hnew
    | some m =>
      cases hz : E.zero e with
      | none => rw [ha, hz] at hnew; cases hnew
      | some zz =>
        rw [ha, hz] at hnew
        obtain ⟨g1, g2⟩ := guard_some hnew
        simp only [Option.some.injEq, Prod.mk.injEq] at g2
        obtain ⟨rfl, rfl⟩ := g2
        obtain ⟨k, rfl⟩ := asN_ok ha hx
        refine ⟨?_, fun hh => (by cases hh), fun _ => ⟨k, rfl⟩, fun O w r => ?_⟩
        · obtain ⟨z', hz1, hz2⟩ := zero_ok ok hz μ default
          obtain ⟨s1, s2, s3⟩ := sized_rel g1 hz2
          have := (rep_rel s2 m).length
          rw [this]
          simp [s3]
        · obtain ⟨z', hz1, hz2⟩ := zero_ok ok hz μ w
          obtain ⟨s1, s2, s3⟩ := sized_rel g1 hz2
          refine ⟨(List.replicate m z'.cells.toList).flatten, rep_rel s2 m, ?_⟩
          simp only [appended, Bool.not_true, Bool.false_eq_true, if_false]
          by_cases h0 : m * size = 0
          · have hfl : (List.replicate m z'.cells.toList).flatten = [] := by
              rcases Nat.mul_eq_zero.1 h0 with h0 | h0
              · subst h0; rfl
              · have : z'.cells.toList = [] := List.length_eq_zero_iff.1 (by rw [Array.length_toList]; omega)
                rw [this]; simp
            rw [if_pos h0, hfl]; rfl
          · rw [if_neg h0]
            simp only [Sem.run_bind, hz1, Result.andThen_ok, Sem.run_pure]
            congr 1
            apply Array.toList_inj.1
            have := zeros_toList z'.cells m
            simpa [Builtin.zeroCells] using this

end
end Go.Ab
end
