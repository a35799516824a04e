/- Maps: operations. Maps: what is taken out of them; iterators. Conditions: none. -/
import Derived.Test.YtbclmkfibgmgdaaGreatDoorRdVN
section
namespace Go.Ab

section
variable {E : Env} {O : Own} {μ : Mu} {h : Heap} {hp : Array Obj}

/-- a map is written -/
theorem HRel.putMap {b : Nat} {p : Pl} {es es2 : List (AV × AV)} {mo mo2 : Nat} {es' es2' : Array MapEntry} {clock clock2 : Nat} (r : HRel E O μ h hp) (hb : h.get b = some (.map es mo)) (hm : μ b = some p)
    (hold : hp[p.blk]? = some (.map es' clock)) (ho2 : MapR μ es2 es2' clock2)
    (hi : mo2 = mo + 1 ∨ (mo2 = mo ∧ clock2 = clock ∧ ∀ sb seen, SeenR μ es' sb seen → SeenR μ es2' sb seen)) :
    HRel E O μ (h.put b (.map es2 mo2)) (hp.setIfInBounds p.blk (.map es2' clock2)) := by
  have hlt : p.blk < hp.size := r.size b p hm
  have hother : ∀ c q, c ≠ b → ∀ x, h.get c = some x → μ c = some q → (hp.setIfInBounds p.blk (.map es2' clock2))[q.blk]? = hp[q.blk]? := by
    intro c q hc x hx hq
    have : p.blk ≠ q.blk := fun e => hc (r.inj c b x _ q p hx hb (.inr rfl) hq hm e.symm)
    rw [Array.getElem?_setIfInBounds_ne this]
  have hget : ∀ c x, (h.put b (.map es2 mo2)).get c = some x → (c = b ∧ x = .map es2 mo2) ∨ (c ≠ b ∧ h.get c = some x) := by
    intro c x hx
    by_cases hc : c = b
    · subst hc; exact .inl ⟨rfl, h.get_put_some c _ hx⟩
    · rw [h.get_put_ne b c _ hc] at hx; exact .inr ⟨hc, hx⟩
  refine ⟨?_, ?_, ?_, ?_, ?_, ?_, ?_, r.nro⟩
  · intro c x hx
    rcases hget c x hx with ⟨rfl, rfl⟩ | ⟨hc, hx'⟩
    · exact ⟨p, .map es2' clock2, hm, by simp [hlt], .map ho2⟩
    · obtain ⟨q, ob, hq, hqo, hqr⟩ := r.obj c x hx'
      exact ⟨q, ob, hq, by rw [hother c q hc x hx' hq]; exact hqo, hqr⟩
  · intro c c' x x' q q' hx hx' how hq hq' e
    have f : ∀ c x, (h.put b (.map es2 mo2)).get c = some x → ∃ y, h.get c = some y ∧ (x.owned = true → y.owned = true) := by
      intro c x hx
      rcases hget c x hx with ⟨rfl, _⟩ | ⟨_, hx'⟩
      · exact ⟨_, hb, fun _ => rfl⟩
      · exact ⟨x, hx', id⟩
    obtain ⟨y, hy, hyo⟩ := f c x hx
    obtain ⟨y', hy', hyo'⟩ := f c' x' hx'
    exact r.inj c c' y y' q q' hy hy' (how.imp hyo hyo') hq hq' e
  · intro c x q hx how hq
    rcases hget c x hx with ⟨rfl, _⟩ | ⟨_, hx'⟩
    · rw [hm] at hq; cases hq; exact r.own _ _ _ hb rfl hm
    · exact r.own c x q hx' how hq
  · intro c q hq; simpa using r.size c q hq
  · intro c hc; exact r.up c (by simpa using hc)
  · intro c m mods seen q pm es1 mo1 hc hmm hq hpm
    rcases hget c _ hc with ⟨rfl, hh⟩ | ⟨hcn, hc'⟩
    · cases hh
    · rcases hget m _ hmm with ⟨rfl, hh⟩ | ⟨hmn, hm'⟩
      · simp only [AObj.map.injEq] at hh
        obtain ⟨rfl, rfl⟩ := hh
        rw [hm] at hpm; cases hpm
        have hi0 := r.iter c m mods seen q p es mo hc' hb hq hm
        rcases hi with hi | ⟨rfl, rfl, hs⟩
        · refine ⟨by have := hi0.1; omega, fun e => by have := hi0.1; omega⟩
        · refine ⟨hi0.1, fun e es3 clock3 since sb stepped h1 h2 => ?_⟩
          have h1' : es3 = es2' ∧ clock3 = clock2 := by
            have : (hp.setIfInBounds p.blk (.map es2' clock2))[p.blk]? = some (.map es2' clock2) := by simp [hlt]
            rw [this] at h1; simp only [Option.some.injEq, Obj.map.injEq] at h1; exact ⟨h1.1.symm, h1.2.symm⟩
          obtain ⟨rfl, rfl⟩ := h1'
          rw [hother c q hcn _ hc' hq] at h2
          obtain ⟨g1, g2, g3⟩ := hi0.2 e es' clock3 since sb stepped hold h2
          exact ⟨g1, g2, hs sb seen g3⟩
      · have hi0 := r.iter c m mods seen q pm es1 mo1 hc' hm' hq hpm
        refine ⟨hi0.1, fun e es3 clock3 since sb stepped h1 h2 => hi0.2 e es3 clock3 since sb stepped ?_ ?_⟩
        · rw [hother m pm hmn _ hm' hpm] at h1; exact h1
        · rw [hother c q hcn _ hc' hq] at h2; exact h2
  · intro c x q hx hq
    rcases hget c _ hx with ⟨rfl, hh⟩ | ⟨_, hx'⟩
    · cases hh
    · exact r.ro c x q hx' hq

theorem step_set {w : World} {b : Nat} {ob : Obj} (hb : O b) : Step O w { w with heap := w.heap.setIfInBounds b ob } := by
  refine ⟨fun c hc => ?_, by simp, rfl, rfl, rfl⟩
  have : b ≠ c := fun e => hc (e ▸ hb)
  rw [Array.getElem?_setIfInBounds_ne this]

end

theorem run_setObj {P : Program} {w : World} {b : Nat} {o ob : Obj} (h : w.heap[b]? = some o) (hc : ∀ c e f, o ≠ .cells c e f) : (setObj b ob).run P w = .ok () { w with heap := w.heap.setIfInBounds b ob } := by
  unfold setObj
  cases o <;> simp only [Sem.run, h] <;> first | rfl | exact absurd rfl (hc _ _ _)

theorem run_getObj {P : Program} {w : World} {b : Nat} {o : Obj} (h : w.heap[b]? = some o) (hc : ∀ c e f, o ≠ .cells c e f) : (getObj b).run P w = .ok o w := by
  unfold getObj
  cases o <;> simp only [Sem.run, h] <;> first | rfl | exact absurd rfl (hc _ _ _)

theorem borns_split {en : MapEntry} {C D : List MapEntry} (h : ((C ++ en :: D).map (·.born)).Nodup) : ∀ e ∈ C ++ D, e.born ≠ en.born := by
  intro e he heq
  rw [List.map_append, List.map_cons, List.nodup_append] at h
  obtain ⟨_, h2, h3⟩ := h
  rw [List.nodup_cons] at h2
  rcases List.mem_append.1 he with h' | h'
  · exact h3 e.born (List.mem_map.2 ⟨e, h', rfl⟩) en.born (by simp) heq
  · exact h2.1 (heq ▸ List.mem_map.2 ⟨e, h', rfl⟩)

theorem modify_split {es' : Array MapEntry} {C D : List MapEntry} {en : MapEntry} (f : MapEntry → MapEntry) (h : es'.toList = C ++ en :: D) : (es'.modify C.length f).toList = C ++ f en :: D := by
  apply List.ext_getElem?
  intro j
  have e1 : (es'.modify C.length f).toList[j]? = (es'.modify C.length f)[j]? := by rw [Array.getElem?_toList]
  rw [e1, Array.getElem?_modify]
  have e2 : es'[j]? = (C ++ en :: D)[j]? := by rw [← h]; simp
  rw [e2]
  by_cases hj : C.length = j
  · subst hj; simp
  · rw [if_neg hj]
    rcases Nat.lt_or_ge j C.length with hl | hl
    · rw [List.getElem?_append_left hl, List.getElem?_append_left hl]
    · rw [List.getElem?_append_right hl, List.getElem?_append_right hl]
      obtain ⟨q, hq⟩ : ∃ q, j - C.length = q + 1 := ⟨j - C.length - 1, by omega⟩
      rw [hq]; simp

theorem updateE_apart {k v u : AV} {A B : List (AV × AV)} (h : (A ++ (k, u) :: B).Pairwise Apart) : (A ++ (k, v) :: B).Pairwise Apart := by
  rw [List.pairwise_append, List.pairwise_cons] at h ⊢
  obtain ⟨h1, ⟨h2, h3⟩, h4⟩ := h
  refine ⟨h1, ⟨fun x hx => h2 x hx, h3⟩, fun a ha b hb => ?_⟩
  rcases List.mem_cons.1 hb with rfl | hb'
  · exact h4 a ha (k, u) (by simp)
  · exact h4 a ha b (by simp [hb'])

section
variable {E : Env} {P : Program} (ok : EnvOk E P)
include ok

/-- what an operation with an effect of its own does: no block is made -/
def PutR (E : Env) (O : Own) (μ : Mu) (w w' : World) (h' : Heap) : Prop := Step O w w' ∧ HRel E O μ h' w'.heap

theorem update_ok {O : Own} {μ : Mu} {h : Heap} {w : World} (r : HRel E O μ h w.heap) {t : TypeId} {x k v : AV} {x' k' v' : Value} (hx : VR μ x x') (hk : VR μ k k') (hv : VR μ v v') :
    Leads (updateA E t x k v h) fun y => y.1 = .val undefA ∧ ∃ w', (Instr.mapUpdate t x' k' v').run P w = .ok () w' ∧ PutR E O μ w w' y.2 ∧ y.2.next = h.next := by
  unfold updateA
  split
  · rename_i m kt e hmt
    apply guard_leads
    intro hko
    cases hx with | map hp =>
    rename_i p
    unfold updateM
    cases hma : h.mapAt m with
    | none => exact .bad
    | some em =>
      obtain ⟨es, mo⟩ := em
      have hget := mapAt_get hma
      obtain ⟨es', clock, h1, hmr⟩ := r.map hget hp
      simp only
      cases hle : lookupE k es with
      | none => exact .bad
      | some o =>
        obtain ⟨res, hf, hfound⟩ := findKey_ok ok hko hk hmr hle w
        have hself := keyOk_self hko
        have hck := checkKey_ok ok hko hself hk false w
        have hu := runUnder ok (mapT_ok hmt) w
        have hg : (getObj p.blk).run P w = .ok (.map es' clock) w := run_getObj h1 (fun _ _ _ hh => by cases hh)
        have hO := r.own m _ p hget rfl hp
        cases hfound with
        | none =>
          refine .ret ⟨rfl, { w with heap := w.heap.setIfInBounds p.blk (.map (es'.push { key := k', val := v', born := clock }) (clock + 1)) }, ?_, ⟨step_set hO, ?_⟩, rfl⟩
          · simp only [Instr.mapUpdate, Sem.run_bind, hu, Result.andThen_ok, hg, hck, hf]
            exact run_setObj h1 (fun _ _ _ hh => by cases hh)
          · refine r.putMap hget hp h1 ?_ (.inl rfl)
            obtain ⟨l, hperm, her⟩ := hmr.ex
            obtain ⟨hall, hnone, _⟩ := lookupE_all hmr.apart hle
            refine ⟨⟨l ++ [{ key := k', val := v', born := clock }], ?_, her.append (.cons hk hv .nil)⟩, ?_, fun x hx => (List.mem_append.1 hx).elim (hmr.self x) (fun h => by have hh := List.mem_singleton.1 h; subst hh; exact hself), ?_, ?_⟩
            · simpa using hperm.append_right _
            · rw [List.pairwise_append]
              refine ⟨hmr.apart, List.pairwise_singleton _ _, fun a ha b hb => ?_⟩
              simp only [List.mem_singleton] at hb
              subst hb
              exact keyEq_comm (hnone rfl a ha)
            · simp only [Array.toList_push, List.map_append, List.map_cons, List.map_nil]
              rw [List.nodup_append]
              refine ⟨hmr.born, by simp, fun a ha b hb => ?_⟩
              simp only [List.mem_singleton] at hb
              subst hb
              obtain ⟨e1, he1, rfl⟩ := List.mem_map.1 ha
              have := hmr.old e1 he1
              omega
            · intro e1 he1
              simp only [Array.toList_push, List.mem_append, List.mem_singleton] at he1
              rcases he1 with he1 | rfl
              · have := hmr.old e1 he1; omega
              · simp
        | some hi hken hval =>
          rename_i i en v0
          obtain ⟨A, u, B, A', B', C, D, rfl, hCD, hC, hperm, q1, q2, q3, q4, q5, q6⟩ := found_split hmr hle hi hken
          have hkeq : en.key = k' := key_vals q6 hken hk
          have hbits : Instr.sameBits 10000 en.key k' = true := by rw [hkeq]; exact sameBits_key q6 hk
          subst hC
          have hei : es'[C.length]? = some en := by simpa using hi
          refine .ret ⟨rfl, { w with heap := w.heap.setIfInBounds p.blk (.map (es'.modify C.length fun e => { e with key := k', val := v' }) clock) }, ?_, ⟨step_set hO, ?_⟩, rfl⟩
          · simp only [Instr.mapUpdate, Sem.run_bind, hu, Result.andThen_ok, hg, hck, hf, hei, Option.map_some, Option.getD_some, Instr.keyThatStays, hbits, if_true, Sem.run_pure]
            exact run_setObj h1 (fun _ _ _ hh => by cases hh)
          · have hmod := modify_split (fun e => { e with key := k', val := v' }) hCD
            have hborn := hmr.born
            rw [hCD] at hborn
            refine r.putMap hget hp h1 ?_ (.inr ⟨rfl, rfl, ?_⟩)
            · rw [updateE_split q4 q6]
              refine ⟨⟨A' ++ { en with key := k', val := v' } :: B', ?_, q1.append (.cons hk hv q2)⟩, updateE_apart hmr.apart, fun x hx => (List.mem_append.1 hx).elim (fun h => hmr.self x (List.mem_append_left _ h)) (fun h => (List.mem_cons.1 h).elim (fun h => by subst h; exact hself)
                (fun h => hmr.self x (List.mem_append_right _ (List.mem_cons_of_mem _ h)))), ?_, ?_⟩
              · rw [hmod]
                exact (List.perm_middle.trans ((List.perm_cons _).2 hperm)).trans List.perm_middle.symm
              · rw [hmod]; simpa using hborn
              · intro e1 he1
                rw [hmod] at he1
                have hold := hmr.old
                rw [hCD] at hold
                rcases List.mem_append.1 he1 with he2 | he2
                · exact hold e1 (by simp [he2])
                · rcases List.mem_cons.1 he2 with rfl | he3
                  · exact hold en (by simp)
                  · exact hold e1 (by simp [he3])
            · rintro sb seen ⟨l, g1, g2, g3, g4⟩
              -- the entry that turned keeps its birth and its key
              refine ⟨l.map fun e => if e.born = en.born then { en with key := k', val := v' } else e, ?_, ?_, ?_⟩
              · intro e1 he1
                obtain ⟨e2, he2, rfl⟩ := List.mem_map.1 he1
                rw [hmod]
                have := g1 e2 he2
                rw [hCD] at this
                split
                · simp
                · rename_i hne
                  rcases List.mem_append.1 this with he3 | he3
                  · simp [he3]
                  · rcases List.mem_cons.1 he3 with rfl | he4
                    · exact absurd rfl hne
                    · simp [he4]
              · rw [g2, List.map_map]
                apply List.map_congr_left
                intro e1 _
                simp only [Function.comp]
                split
                · rename_i hb; exact hb
                · rfl
              · have : (l.map fun e => if e.born = en.born then { en with key := k', val := v' } else e).map (·.key) = l.map (·.key) := by
                  rw [List.map_map]
                  apply List.map_congr_left
                  intro e1 he1
                  simp only [Function.comp]
                  split
                  · rename_i hb
                    have := g1 e1 he1
                    rw [hCD] at this
                    have he1en : e1 = en := by
                      rcases List.mem_append.1 this with he3 | he3
                      · exact absurd hb (borns_split hborn e1 (by simp [he3]))
                      · rcases List.mem_cons.1 he3 with rfl | he4
                        · rfl
                        · exact absurd hb (borns_split hborn e1 (by simp [he4]))
                    rw [he1en, hkeq]
                  · rfl
                rw [this]; exact ⟨g3, g4⟩
  · exact .bad

end

end Go.Ab
end
section
namespace Go.Ab

theorem erase_split {es' : Array MapEntry} {C D : List MapEntry} {en : MapEntry} (h : es'.toList = C ++ en :: D) : (es'.eraseIdxIfInBounds C.length).toList = C ++ D := by
  have hs : C.length < es'.size := by
    have : es'.toList.length = C.length + (D.length + 1) := by rw [h]; simp
    rw [Array.length_toList] at this; omega
  unfold Array.eraseIdxIfInBounds
  rw [dif_pos hs, Array.toList_eraseIdx, h, List.eraseIdx_append_of_length_le (Nat.le_refl _), Nat.sub_self]
  rfl

theorem removeE_apart {A B : List (AV × AV)} {x : AV × AV} (h : (A ++ x :: B).Pairwise Apart) : (A ++ B).Pairwise Apart := by
  rw [List.pairwise_append, List.pairwise_cons] at h
  rw [List.pairwise_append]
  obtain ⟨h1, ⟨_, h3⟩, h4⟩ := h
  exact ⟨h1, h3, fun a ha b hb => h4 a ha b (List.mem_cons_of_mem _ hb)⟩

theorem set_same {hp : Array Obj} {b : Nat} {o : Obj} (h : hp[b]? = some o) : hp.setIfInBounds b o = hp := by
  apply Array.ext_getElem?
  intro i
  by_cases hi : b = i
  · subst hi; rw [Array.getElem?_setIfInBounds_self_of_lt (Array.getElem?_eq_some_iff.1 h).1]; exact h.symm
  · rw [Array.getElem?_setIfInBounds_ne hi]

section
variable {E : Env} {P : Program} (ok : EnvOk E P)
include ok

theorem delete_ok {O : Own} {μ : Mu} {h : Heap} {w : World} (r : HRel E O μ h w.heap) {t ty : TypeId} {x k : AV} {x' k' : Value} {ts : Array TypeId} {args : Array Value} (ht : ts[0]? = some t)
    (ha : args[0]? = some x') (hb : args[1]? = some k') (hx : VR μ x x') (hk : VR μ k k') :
    Leads (deleteA E t x k h) fun y => y.1 = .val undefA ∧ ∃ w', (Builtin.delete_ ts ty args).run P w = .ok (.tuple #[]) w' ∧ PutR E O μ w w' y.2 ∧ y.2.next = h.next := by
  unfold deleteA
  split
  · rename_i kt e hmt
    apply guard_leads
    intro hko
    cases hx
    refine .ret ⟨rfl, w, ?_, ⟨Step.refl O w, r⟩, rfl⟩
    simp only [Builtin.delete_, ht, ha, hb, Sem.run_bind, runUnder ok (mapT_ok hmt), Result.andThen_ok, checkKey_ok ok hko (keyOk_self hko) hk true w, Sem.run_pure]
  · rename_i m kt e hmt
    apply guard_leads
    intro hko
    cases hx with | map hp =>
    rename_i p
    unfold deleteM
    cases hma : h.mapAt m with
    | none => exact .bad
    | some em =>
      obtain ⟨es, mo⟩ := em
      have hget := mapAt_get hma
      obtain ⟨es', clock, h1, hmr⟩ := r.map hget hp
      simp only
      cases hle : lookupE k es with
      | none => exact .bad
      | some o =>
        obtain ⟨res, hf, hfound⟩ := findKey_ok ok hko hk hmr hle w
        have hself := keyOk_self hko
        have hck := checkKey_ok ok hko hself hk es'.isEmpty w
        have hu := runUnder ok (mapT_ok hmt) w
        have hg : (getObj p.blk).run P w = .ok (.map es' clock) w := run_getObj h1 (fun _ _ _ hh => by cases hh)
        have hO := r.own m _ p hget rfl hp
        cases hfound with
        | none =>
          refine .ret ⟨rfl, { w with heap := w.heap.setIfInBounds p.blk (.map es' clock) }, ?_, ⟨step_set hO, ?_⟩, rfl⟩
          · have hs := run_setObj (P := P) (ob := .map es' clock) h1 (fun _ _ _ hh => by cases hh)
            simp only [Builtin.delete_, ht, ha, hb, Sem.run_bind, hu, Result.andThen_ok, hg, hck, hf, hs, Sem.run_pure]
          · have := set_same h1
            simp only [this]; exact r
        | some hi hken hval =>
          rename_i i en v0
          obtain ⟨A, u, B, A', B', C, D, rfl, hCD, hC, hperm, q1, q2, q3, q4, q5, q6⟩ := found_split hmr hle hi hken
          subst hC
          refine .ret ⟨rfl, { w with heap := w.heap.setIfInBounds p.blk (.map (es'.eraseIdxIfInBounds C.length) clock) }, ?_, ⟨step_set hO, ?_⟩, rfl⟩
          · have hs := run_setObj (P := P) (ob := .map (es'.eraseIdxIfInBounds C.length) clock) h1 (fun _ _ _ hh => by cases hh)
            simp only [Builtin.delete_, ht, ha, hb, Sem.run_bind, hu, Result.andThen_ok, hg, hck, hf, hs, Sem.run_pure]
          · have hmod := erase_split hCD
            refine r.putMap hget hp h1 ?_ (.inl rfl)
            rw [removeE_split q4 q6]
            refine ⟨⟨A' ++ B', by rw [hmod]; exact hperm, q1.append q2⟩, removeE_apart hmr.apart, fun x hx => (List.mem_append.1 hx).elim (fun h => hmr.self x (List.mem_append_left _ h)) (fun h => hmr.self x (List.mem_append_right _ (List.mem_cons_of_mem _ h))), ?_, ?_⟩
            · rw [hmod]
              have hborn := hmr.born
              rw [hCD, List.map_append, List.map_cons, List.nodup_append] at hborn
              rw [List.map_append, List.nodup_append]
              obtain ⟨b1, b2, b3⟩ := hborn
              rw [List.nodup_cons] at b2
              exact ⟨b1, b2.2, fun a ha b hb => b3 a ha b (List.mem_cons_of_mem _ hb)⟩
            · intro e1 he1
              rw [hmod] at he1
              apply hmr.old
              rw [hCD]
              rcases List.mem_append.1 he1 with he2 | he2
              · exact List.mem_append_left _ he2
              · exact List.mem_append_right _ (List.mem_cons_of_mem _ he2)
  · exact .bad

end

/-! iterators -/
section
variable {E : Env} {O : Own} {μ : Mu} {h : Heap} {hp : Array Obj}

theorem HRel.putIter {b m : Nat} {p pm : Pl} {seen seen2 : List AV} {mods : Nat} {es : List (AV × AV)} {es' : Array MapEntry} {clock since stepped : Nat} {sb sb2 : Array Nat}
    (r : HRel E O μ h hp) (hb : h.get b = some (.mapIter (some m) mods seen)) (hm : μ b = some p) (_hold : hp[p.blk]? = some (.mapIter (some pm.blk) since sb stepped)) (hpm : μ m = some pm) (hz : p.sh = 0)
    (hes : h.get m = some (.map es mods)) (hmp : hp[pm.blk]? = some (.map es' clock)) (hs : SeenR μ es' sb2 seen2) :
    HRel E O μ (h.put b (.mapIter (some m) mods seen2)) (hp.setIfInBounds p.blk (.mapIter (some pm.blk) clock sb2 clock)) := by
  have hlt : p.blk < hp.size := r.size b p hm
  have hother : ∀ c q, c ≠ b → ∀ x, h.get c = some x → μ c = some q → (hp.setIfInBounds p.blk (.mapIter (some pm.blk) clock sb2 clock))[q.blk]? = hp[q.blk]? := by
    intro c q hc x hx hq
    have : p.blk ≠ q.blk := fun e => hc (r.inj c b x _ q p hx hb (.inr rfl) hq hm e.symm)
    rw [Array.getElem?_setIfInBounds_ne this]
  have hget : ∀ c x, (h.put b (.mapIter (some m) mods seen2)).get c = some x → (c = b ∧ x = .mapIter (some m) mods seen2) ∨ (c ≠ b ∧ h.get c = some x) := by
    intro c x hx
    by_cases hc : c = b
    · subst hc; exact .inl ⟨rfl, h.get_put_some c _ hx⟩
    · rw [h.get_put_ne b c _ hc] at hx; exact .inr ⟨hc, hx⟩
  refine ⟨?_, ?_, ?_, ?_, ?_, ?_, ?_, r.nro⟩
  · intro c x hx
    rcases hget c x hx with ⟨rfl, rfl⟩ | ⟨hc, hx'⟩
    · exact ⟨p, .mapIter (some pm.blk) clock sb2 clock, hm, by simp [hlt], .iter hz hpm⟩
    · obtain ⟨q, ob, hq, hqo, hqr⟩ := r.obj c x hx'
      exact ⟨q, ob, hq, by rw [hother c q hc x hx' hq]; exact hqo, hqr⟩
  · intro c c' x x' q q' hx hx' how hq hq' e
    have f : ∀ c x, (h.put b (.mapIter (some m) mods seen2)).get c = some x → ∃ y, h.get c = some y ∧ (x.owned = true → y.owned = true) := by
      intro c x hx
      rcases hget c x hx with ⟨rfl, _⟩ | ⟨_, hx'⟩
      · exact ⟨_, hb, fun _ => rfl⟩
      · exact ⟨x, hx', id⟩
    obtain ⟨y, hy, hyo⟩ := f c x hx
    obtain ⟨y', hy', hyo'⟩ := f c' x' hx'
    exact r.inj c c' y y' q q' hy hy' (how.imp hyo hyo') hq hq' e
  · intro c x q hx how hq
    rcases hget c x hx with ⟨rfl, _⟩ | ⟨_, hx'⟩
    · rw [hm] at hq; cases hq; exact r.own _ _ _ hb rfl hm
    · exact r.own c x q hx' how hq
  · intro c q hq; simpa using r.size c q hq
  · intro c hc; exact r.up c (by simpa using hc)
  · intro c m1 mods1 seen1 q pm1 es1 mo1 hc hmm hq hpm1
    rcases hget m1 _ hmm with ⟨rfl, hh⟩ | ⟨hmn, hm'⟩
    · cases hh
    · rcases hget c _ hc with ⟨rfl, hh⟩ | ⟨hcn, hc'⟩
      · simp only [AObj.mapIter.injEq, Option.some.injEq] at hh
        obtain ⟨rfl, rfl, rfl⟩ := hh
        rw [hes] at hm'; simp only [Option.some.injEq, AObj.map.injEq] at hm'
        obtain ⟨rfl, rfl⟩ := hm'
        rw [hm] at hq; cases hq
        rw [hpm] at hpm1; cases hpm1
        refine ⟨Nat.le_refl _, fun _ es3 clock3 since3 sb3 stepped3 h1 h2 => ?_⟩
        rw [hother m1 pm hmn _ hes hpm, hmp] at h1
        simp only [Option.some.injEq, Obj.map.injEq] at h1
        obtain ⟨rfl, rfl⟩ := h1
        have : (hp.setIfInBounds p.blk (.mapIter (some pm.blk) clock sb2 clock))[p.blk]? = some (.mapIter (some pm.blk) clock sb2 clock) := by simp [hlt]
        rw [this] at h2
        simp only [Option.some.injEq, Obj.mapIter.injEq, true_and] at h2
        obtain ⟨rfl, rfl, rfl⟩ := h2
        exact ⟨rfl, fun _ => rfl, hs⟩
      · have hi0 := r.iter c m1 mods1 seen1 q pm1 es1 mo1 hc' hm' hq hpm1
        refine ⟨hi0.1, fun e es3 clock3 since3 sb3 stepped3 h1 h2 => hi0.2 e es3 clock3 since3 sb3 stepped3 ?_ ?_⟩
        · rw [hother m1 pm1 hmn _ hm' hpm1] at h1; exact h1
        · rw [hother c q hcn _ hc' hq] at h2; exact h2
  · intro c x q hx hq
    rcases hget c _ hx with ⟨rfl, hh⟩ | ⟨_, hx'⟩
    · cases hh
    · exact r.ro c x q hx' hq

end

section
variable {E : Env} {P : Program} (ok : EnvOk E P)
include ok

theorem range_ok {O : Own} {μ : Mu} {h : Heap} {w : World} (r : HRel E O μ h w.heap) {t : TypeId} {x : AV} {x' : Value} {o : AObj} {g : Nat → AV} {id : Nat} (hn : μ id = none) (hx : VR μ x x')
    (hr : rangeA E t x h = some (o, g)) : ∃ v' w', (Instr.range t x').run P w = .ok v' w' ∧ AlR E O μ w w' o g id v' h := by
  have hptr : VR (μ.add id ⟨w.heap.size, 0, 0, 0, 0, false⟩) (.ptr id 0) (.pointer (some ⟨w.heap.size, 0, none⟩)) := by
    have := VR.ptr (μ := μ.add id ⟨w.heap.size, 0, 0, 0, 0, false⟩) (b := id) (off := 0) Mu.add_self
    simpa using this
  unfold rangeA at hr
  split at hr
  · rename_i s hu
    simp only [Option.some.injEq, Prod.mk.injEq] at hr
    obtain ⟨rfl, rfl⟩ := hr
    cases hx
    rename_i s
    refine ⟨.pointer (some ⟨w.heap.size, 0, none⟩), { w with heap := w.heap.push (.stringIter s 0) }, ?_, ⟨w.heap.size, 0, 0, 0, 0, false⟩, step_push (d := w.drawn) r, r.add hn rfl (.str rfl) (fun _ _ _ hh => by cases hh), hptr⟩
    simp [Instr.range, runUnder ok hu]
  · rename_i k e hu
    simp only [Option.some.injEq, Prod.mk.injEq] at hr
    obtain ⟨rfl, rfl⟩ := hr
    cases hx
    refine ⟨.pointer (some ⟨w.heap.size, 0, none⟩), { w with heap := w.heap.push (.mapIter none 0 #[] 0) }, ?_, ⟨w.heap.size, 0, 0, 0, 0, false⟩, step_push (d := w.drawn) r, r.add hn rfl (.noIter rfl) (fun _ _ _ hh => by cases hh), hptr⟩
    simp [Instr.range, runUnder ok hu]
  · rename_i m k e hu
    cases hx with | map hp =>
    rename_i p
    cases hma : h.mapAt m with
    | none => rw [hma] at hr; cases hr
    | some em =>
      rw [hma] at hr
      simp only [Option.map_some, Option.some.injEq, Prod.mk.injEq] at hr
      obtain ⟨rfl, rfl⟩ := hr
      obtain ⟨es', clock, h1, hmr⟩ := r.map (mapAt_get hma) hp
      have hg : (getObj p.blk).run P w = .ok (.map es' clock) w := run_getObj h1 (fun _ _ _ hh => by cases hh)
      refine ⟨.pointer (some ⟨w.heap.size, 0, none⟩), { w with heap := w.heap.push (.mapIter (some p.blk) clock #[] clock) }, ?_, ⟨w.heap.size, 0, 0, 0, 0, false⟩, step_push (d := w.drawn) r, r.add hn rfl (.iter rfl (Mu.le_add hn _ _ hp)) ?_, hptr⟩
      · simp [Instr.range, runUnder ok hu, hg]
      · intro m2 mods seen hh pm es mo hm2 hpm
        simp only [AObj.mapIter.injEq, Option.some.injEq] at hh
        obtain ⟨rfl, rfl, rfl⟩ := hh
        rw [hp] at hpm; cases hpm
        rw [mapAt_get hma] at hm2
        simp only [Option.some.injEq, AObj.map.injEq] at hm2
        obtain ⟨rfl, rfl⟩ := hm2
        refine ⟨Nat.le_refl _, fun _ es3 clock3 since sb stepped g1 g2 => ?_⟩
        have hlt := r.size m p hp
        have e1 : (w.heap.push (.mapIter (some p.blk) clock #[] clock))[p.blk]? = some (.map es' clock) := by
          rw [Array.getElem?_push_lt hlt, ← h1, Array.getElem?_eq_getElem hlt]
        rw [e1] at g1
        simp only [Option.some.injEq, Obj.map.injEq] at g1
        obtain ⟨rfl, rfl⟩ := g1
        simp only [Array.getElem?_push_size, Option.some.injEq, Obj.mapIter.injEq, true_and] at g2
        obtain ⟨rfl, rfl, rfl⟩ := g2
        exact ⟨rfl, fun h => absurd rfl h, [], by simp, by simp, .nil, by simp⟩
  · cases hr

end
end Go.Ab
end
