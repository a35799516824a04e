/- Appends: what they come to. Appends and copies. Every operation that does more than give a value. What an operation does to the abstract heap beside its answer. Conditions: none. -/
import Derived.Test.YtbclmkfibgmgdaaGreatDoorRdWB
section
namespace Go.Ab

/-- a world that has drawn once more -/
abbrev dr (w : World) : World := { w with drawn := w.drawn + 1 }

section
variable {E : Env} {P : Program} (ok : EnvOk E P)
include ok

theorem grow_run {w : World} {e : TypeId} {bytes size n sLen sCap : Nat} {base : Option Addr} {app : Sem (Array Value)} {old' new' : List Value} {z : AV} (hg : ¬ sLen + n ≤ sCap) (hz : E.zero e = some z) (hs : sized z size = true)
    (ho : (Builtin.firstCells size sLen (.slice base sLen sCap)).run P (dr w) = .ok old'.toArray (dr w)) (ha : app.run P (dr w) = .ok new'.toArray (dr w)) :
    ∃ cap rest, sLen + n ≤ cap ∧ rest.length = (cap - (sLen + n)) * size ∧
      (appendRun bytes size n base sLen sCap e app).run P w = .ok (.slice (some ⟨w.heap.size, 0, none⟩) (sLen + n) cap) { w with heap := w.heap.push (.cells (old' ++ new' ++ rest).toArray e), drawn := w.drawn + 1 } := by
  obtain ⟨z', hz1, hz2⟩ := zero_ok ok hz (fun _ => none) (dr w)
  obtain ⟨s1, s2, s3⟩ := sized_rel hs hz2
  refine ⟨sLen + n + w.tape w.drawn (.appendCap (sLen + n) sCap e) % (2 ^ 63 - (sLen + n)), (List.replicate (w.tape w.drawn (.appendCap (sLen + n) sCap e) % (2 ^ 63 - (sLen + n))) z'.cells.toList).flatten, by omega, by simp [s3], ?_⟩
  have hc : (choose (.appendCap (sLen + n) sCap e)).run P w = .ok (sLen + n + w.tape w.drawn (.appendCap (sLen + n) sCap e) % (2 ^ 63 - (sLen + n))) (dr w) := by
    rw [run_choose, if_neg (by simp [Question.forced])]; rfl
  unfold appendRun
  rw [if_neg hg]
  simp only [Sem.run_bind, hc, Result.andThen_ok, run_askRoom, ho, ha, hz1, Nat.add_sub_cancel_left]
  generalize w.tape w.drawn (.appendCap (sLen + n) sCap e) % (2 ^ 63 - (sLen + n)) = m
  have hzc : Builtin.zeroCells z'.cells m = ((List.replicate m z'.cells.toList).flatten).toArray := by
    apply Array.toList_inj.1
    have := zeros_toList z'.cells m
    simpa [Builtin.zeroCells] using this
  rw [hzc]
  simp [newRow]
  exact ⟨rfl, rfl, rfl⟩

theorem appendTo_ok {O : Own} {μ : Mu} {h : Heap} {w : World} (r : HRel E O μ h w.heap) {id e n size bytes sLen sCap : Nat} {s : AV} {base : Option Addr} {app : Sem (Array Value)} {new : List AV} {z : AV} (hn : μ id = none)
    (hs : VR μ s (.slice base sLen sCap)) (hl : new.length = n * size) (hsz : E.size e = some size) (hz : E.zero e = some z) (hzs : sized z size = true)
    (happ : ∀ w1 : World, HRel E O μ h w1.heap → ∃ new', VRL μ new new' ∧ app.run P w1 = .ok new'.toArray w1) :
    Leads (appendTo s size e id h n new) (ApR E O P μ id h (appendRun bytes size n base sLen sCap e app) w) := by
  have r2 : HRel E O μ h (dr w).heap := r
  unfold appendTo
  split
  · cases hs
    split
    · obtain ⟨new', q1, q2⟩ := happ w r
      refine .ret ⟨_, rfl, μ, .slice none 0 0, w, .inl rfl, ?_, .nilSlice, Step.refl O w, r, rfl⟩
      simp [appendRun, q2]
    · rename_i m
      obtain ⟨new', q1, q2⟩ := happ (dr w) r2
      obtain ⟨cap, rest, c1, c2, c3⟩ := grow_run ok (w := w) (e := e) (bytes := bytes) (size := size) (n := m + 1) (sLen := 0) (sCap := 0) (base := none) (app := app) (old' := []) (new' := new') (by omega) hz hzs
        (by simp [Builtin.firstCells]) q2
      have hr := openCells_rel (post := rest) (ext := cap - (0 + (m + 1))) r hn q1 hsz (by rw [c2]; exact Nat.le_refl _)
      refine .ret ⟨_, rfl, _, _, _, .inr ⟨_, rfl⟩, c3, ?_, step_push r, by simpa using hr, rfl⟩
      have := VR.slice (μ := μ.add id ⟨w.heap.size, 0, cap - (0 + (m + 1)), new.length, size, true⟩) (b := id) (off := 0) (n := m + 1) (c := m + 1) (op := size + 1) Mu.add_self (fun _ => ⟨rfl, rfl, by simp only; rw [hl]; simp⟩)
      simp only [Nat.zero_add] at c1
      simpa [Nat.add_sub_cancel' c1] using this
  · rename_i b off ln cap op
    cases hs with | slice hp hop =>
    rename_i p
    cases hble : Nat.ble (Nat.add sLen n) cap with
    | true =>
      have hle : sLen + n ≤ cap := Nat.le_of_ble_eq_true hble
      show Leads (appendIn b off sLen n cap op size new h) _
      have hle2 : sLen + n ≤ (if op = 0 then cap else cap + p.ext) := by split <;> omega
      obtain ⟨new', q1, q2⟩ := happ w r
      unfold appendIn
      split
      · have hnew : new = [] := List.length_eq_zero_iff.1 (by simpa using hl)
        subst hnew
        cases q1
        refine .ret ⟨_, rfl, μ, _, w, .inl rfl, ?_, .slice hp hop, Step.refl O w, r, rfl⟩
        simp only [appendRun, if_pos hle2, Sem.run_bind, q2, Result.andThen_ok, storeCells, Sem.run_pure]
        rfl
      · rename_i m
        cases hc : h.cells b with
        | none => exact .bad
        | some ceo =>
          obtain ⟨c, eb, o⟩ := ceo
          simp only
          cases hsp : splice new (Nat.add off (Nat.mul sLen size)) c with
          | none => exact .bad
          | some c2 =>
            apply guard_leads
            intro hsc
            obtain ⟨w', g1, g2, g3⟩ := storeCells_ok (P := P) r hc hp q1 hsc hsp
            refine .ret ⟨_, rfl, μ, _, w', .inl rfl, ?_, .slice hp hop, g2, g3, rfl⟩
            have ha : (⟨p.blk, p.sh + off, none⟩ : Addr).add (sLen * size) = ⟨p.blk, p.sh + (off + sLen * size), none⟩ := by rw [addr_add, Nat.add_assoc]
            have g1' : (storeCells ⟨p.blk, p.sh + (off + sLen * size), none⟩ new').run P w = .ok () w' := g1
            simp only [appendRun, if_pos hle2, Sem.run_bind, q2, Result.andThen_ok, ha, g1', Sem.run_pure]
            rfl
    | false =>
      have hgt : ¬ sLen + n ≤ cap := fun hh => by
        have : Nat.ble (Nat.add sLen n) cap = true := Nat.ble_eq_true_of_le hh
        rw [this] at hble; cases hble
      show Leads (appendOut b off sLen n op size e id new h) _
      unfold appendOut
      cases hc : h.cells b with
      | none => exact .bad
      | some ceo =>
        obtain ⟨c, eb, o⟩ := ceo
        simp only [appendNew]
        cases hcut : cut c off (Nat.mul sLen size) with
        | none => exact .bad
        | some old =>
          apply guard_leads
          intro hck
          obtain ⟨pre, mid, post, fr, hca, _, t2, t3⟩ := r.cells hc hp
          obtain ⟨a, bb, hce, hal, hol⟩ := cut_parts hcut
          have hol : old.length = sLen * size := hol
          obtain ⟨new', n1, n2⟩ := happ (dr w) r2
          obtain ⟨old', o1, o2⟩ := loadCells_ok (P := P) (w := dr w) hca.toCellsO hcut
          have o2 : (Builtin.firstCells size sLen (.slice (some ⟨p.blk, p.sh + off, none⟩) sLen (if op = 0 then cap else cap + p.ext))).run P (dr w) = .ok old'.toArray (dr w) := o2
          have hlen : (old ++ new).length = (sLen + n) * size := by rw [List.length_append, hol, hl, Nat.add_mul]
          have hval : ∀ q : Pl, q.op = true → q.esz = size → q.tot = (old ++ new).length → VR (μ.add id q) (.slice id 0 (sLen + n) (sLen + n) (size + 1)) (.slice (some ⟨q.blk, q.sh, none⟩) (sLen + n) (sLen + n + q.ext)) := by
            intro q e1 e2 e3
            have := VR.slice (μ := μ.add id q) (b := id) (off := 0) (n := sLen + n) (c := sLen + n) (op := size + 1) Mu.add_self (fun _ => ⟨e1, by rw [e2], by rw [e2, e3, hlen]; simp⟩)
            simpa using this
          have grow : ¬ sLen + n ≤ (if op = 0 then cap else cap + p.ext) → ∀ hx : Heap, (∀ m2 w2, HRel E O m2 (h.put id (.cells (old ++ new) e true)) w2 → HRel E O m2 hx w2) → hx.next = h.next →
              ApR E O P μ id h (appendRun bytes size n (some ⟨p.blk, p.sh + off, none⟩) sLen (if op = 0 then cap else cap + p.ext) e app) w (.val (.slice id 0 (sLen + n) (sLen + n) (size + 1)), hx) := by
            intro hg hx hxr hxn
            obtain ⟨cap2, rest, c1, c2, c3⟩ := grow_run ok (w := w) (e := e) (bytes := bytes) (size := size) (n := n) (sLen := sLen) (app := app) (old' := old') (new' := new') hg hz hzs o2 n2
            have hr := openCells_rel (post := rest) (ext := cap2 - (sLen + n)) r hn (o1.append n1) hsz (by rw [c2]; exact Nat.le_refl _)
            refine ⟨_, rfl, _, _, _, .inr ⟨_, rfl⟩, c3, ?_, step_push r, hxr _ _ hr, hxn⟩
            have := hval ⟨w.heap.size, 0, cap2 - (sLen + n), (old ++ new).length, size, true⟩ rfl rfl rfl
            simpa [Nat.add_sub_cancel' c1] using this
          cases op with
          | zero => exact .ret (grow (by simpa using hgt) _ (fun _ _ hh => hh) rfl)
          | succ op =>
            by_cases hroom : sLen + n ≤ cap + p.ext
            · -- the cells lie where they lay
              have hck2 : (Nat.beq eb e && scalars new) = true := hck
              simp only [Bool.and_eq_true] at hck2
              obtain ⟨k1, k2⟩ := hck2
              have k1 : eb = e := Nat.eq_of_beq_eq_true k1
              subst k1
              obtain ⟨p1, p2, p3⟩ := hop (by simp)
              have hO : o = true := by rw [← t2]; exact p1
              obtain ⟨u1, u2, u3⟩ := t3 hO
              have hes : p.esz = size := by rw [hsz] at u3; simpa using u3.symm
              rw [hes] at p3 u2
              obtain ⟨new2, m1, m2⟩ := happ w r
              have hmid := hca.rel
              rw [hce] at hmid
              obtain ⟨x, b', rfl, hx, hb'⟩ := VRL.split hmid
              obtain ⟨a', old2, rfl, ha', ho2⟩ := VRL.split hx
              have la := ha'.length
              have lo := ho2.length
              have lb := hb'.length
              have ln2 := m1.length
              have hcl : c.length = a.length + old.length + bb.length := by rw [hce]; simp; omega
              have hmul : (sLen + n) * size ≤ (cap + p.ext) * size := Nat.mul_le_mul_right _ hroom
              rw [Nat.add_mul, Nat.add_mul] at hmul
              have hbp : n * size ≤ (b' ++ post).length := by simp; omega
              have hown : O p.blk ∧ p.blk < w.heap.size := ⟨r.own b _ p (cells_get hc) rfl hp, r.size b p hp⟩
              have hdecomp : pre ++ (a' ++ old2 ++ b') ++ post = (pre ++ a' ++ old2) ++ [] ++ (b' ++ post).take (n * size) ++ (b' ++ post).drop (n * size) := by
                rw [List.append_nil, List.append_assoc (pre ++ a' ++ old2), List.take_append_drop]; simp
              have hw : w = withCells w p.blk ((pre ++ a' ++ old2) ++ [] ++ (b' ++ post).take (n * size) ++ (b' ++ post).drop (n * size)) eb fr := by
                rw [← hdecomp]
                unfold withCells
                rw [set_same hca.at_]
              have htl : ((b' ++ post).take (n * size)).length = n * size := by rw [List.length_take]; omega
              have hl2 : (pre ++ a' ++ old2 ++ [] ++ new2 ++ (b' ++ post).drop (n * size)).length = (pre ++ (a' ++ old2 ++ b') ++ post).length := by
                rw [hdecomp]; simp only [List.length_append, htl]; omega
              have hrun := storeCells_list (P := P) (w := w) (b := p.blk) (e := eb) (fr := fr) (pre ++ a' ++ old2) ((b' ++ post).drop (n * size)) hown.2 new2 ((b' ++ post).take (n * size)) [] 0 rfl (by omega)
                (by rw [hl2]; exact hca.ok)
                (by
                  intro v hv
                  obtain ⟨i, hi⟩ := List.mem_iff_getElem?.1 hv
                  have hlt := (List.getElem?_eq_some_iff.1 hi).1
                  have hlt' : i < new.length := by omega
                  obtain ⟨y, hy, hr⟩ := m1.get i (List.getElem?_eq_getElem hlt')
                  rw [hi] at hy; cases hy
                  exact scalar_one (scalars_all k2 _ (List.getElem_mem hlt')) hr)
              have e3 : (pre ++ a' ++ old2).length = p.sh + (off + sLen * size) := by have := hca.sh; simp; omega
              rw [← hw, e3] at hrun
              have hfin := r.moveTo (q := ⟨p.blk, p.sh + off, cap + p.ext - (sLen + n), (old ++ new).length, size, true⟩) (o2 := .cells (old ++ new) eb true)
                (ob2 := .cells (pre ++ a' ++ old2 ++ [] ++ new2 ++ (b' ++ post).drop (n * size)).toArray eb fr) (cells_get hc) hp hn rfl rfl rfl (by
                  have hor := OR'.cells (E := E) (μ := μ.add id ⟨p.blk, p.sh + off, cap + p.ext - (sLen + n), (old ++ new).length, size, true⟩) (p := ⟨p.blk, p.sh + off, cap + p.ext - (sLen + n), (old ++ new).length, size, true⟩)
                    (c := old ++ new) (e := eb) (op := true) (pre := pre ++ a') (mid := old2 ++ new2) (post := (b' ++ post).drop (n * size)) (fr := fr)
                    (by have := hca.sh; simp; omega) ((ho2.append m1).mono (Mu.le_add hn)) (fun hh => by cases hh) rfl
                    (fun _ => ⟨rfl, by
                      simp only [List.length_drop, List.length_append]
                      have : (cap + p.ext - (sLen + n)) * size = (cap + p.ext) * size - (sLen + n) * size := Nat.sub_mul _ _ _
                      rw [this, Nat.add_mul, Nat.add_mul]
                      omega, hsz⟩)
                    (by
                      have : (pre ++ a' ++ (old2 ++ new2) ++ (b' ++ post).drop (n * size)).length = (pre ++ a' ++ old2 ++ [] ++ new2 ++ (b' ++ post).drop (n * size)).length := by simp
                      rw [this, hl2]; exact hca.ok)
                  have e4 : pre ++ a' ++ (old2 ++ new2) ++ (b' ++ post).drop (n * size) = pre ++ a' ++ old2 ++ [] ++ new2 ++ (b' ++ post).drop (n * size) := by simp
                  rw [e4] at hor
                  exact hor)
              refine .ret ⟨_, rfl, _, .slice (some ⟨p.blk, p.sh + off, none⟩) (sLen + n) (cap + p.ext), withCells w p.blk (pre ++ a' ++ old2 ++ [] ++ new2 ++ (b' ++ post).drop (n * size)) eb fr, .inr ⟨_, rfl⟩, ?_, ?_, ?_, hfin, rfl⟩
              · have ha : (⟨p.blk, p.sh + off, none⟩ : Addr).add (sLen * size) = ⟨p.blk, p.sh + (off + sLen * size), none⟩ := by rw [addr_add, Nat.add_assoc]
                have h0 : (if op + 1 = 0 then cap else cap + p.ext) = cap + p.ext := if_neg (by omega)
                simp only [appendRun, h0, if_pos hroom, Sem.run_bind, m2, Result.andThen_ok, ha, hrun, Sem.run_pure]
              · have := hval ⟨p.blk, p.sh + off, cap + p.ext - (sLen + n), (old ++ new).length, size, true⟩ rfl rfl rfl
                simpa [Nat.add_sub_cancel' hroom] using this
              · refine ⟨fun y hy => ?_, by simp [withCells], rfl, rfl, rfl⟩
                have : p.blk ≠ y := fun hh => hy (hh ▸ hown.1)
                simp only [withCells]
                rw [Array.getElem?_setIfInBounds_ne this]
            · refine .ret (grow (by simpa using hroom) _ (fun _ _ hh => hh.drop b) rfl)
  · exact .bad

end
end Go.Ab
end
section
namespace Go.Ab

theorem first_lenN {size n : Nat} {h : Heap} {x : AV} {l : List AV} (h0 : x = .nilSlice → n = 0) (hf : firstA size n h x = some l) : l.length = n * size := by
  unfold firstA at hf
  split at hf
  · simp only [Option.some.injEq] at hf; subst hf; simp [h0 rfl]
  · obtain ⟨hn, hf2⟩ := guard_some hf
    clear hf
    simp only [Option.some.injEq] at hf2; subst hf2
    have hn : n = 0 := Nat.eq_of_beq_eq_true hn
    subst hn; simp
  · rename_i s
    obtain ⟨h1, hf2⟩ := guard_some hf
    clear hf
    have h1 : size = 1 := Nat.eq_of_beq_eq_true h1
    subst h1
    cases hc : cut s 0 n with
    | none => rw [hc] at hf2; cases hf2
    | some q =>
      rw [hc] at hf2
      simp only [Option.map_some, Option.some.injEq] at hf2
      subst hf2
      obtain ⟨c1, c2⟩ := cut_eq 0 s n q hc
      rw [c2]; simp [toBytes]; omega
  · rename_i b off ln cap op
    cases hc : h.cells b with
    | none => rw [hc] at hf; cases hf
    | some ceo =>
      rw [hc] at hf
      simp only [Option.bind_some] at hf
      obtain ⟨_, _, _, _, h3⟩ := cut_parts hf
      exact h3
  · cases hf

section
variable {E : Env} {P : Program} (ok : EnvOk E P)
include ok

theorem append_ok {O : Own} {μ : Mu} {h : Heap} {w : World} (r : HRel E O μ h w.heap) {id : Nat} {t ty : TypeId} {xt : Option TypeId} {s x : AV} {s' x' : Value} {ts : Array TypeId} {args : Array Value} (hn : μ id = none)
    (ht : ts[0]? = some t) (hxt : ts[1]? = xt) (ha : args[0]? = some s') (hb : args[1]? = some x') (hs : VR μ s s') (hx : VR μ x x') :
    Leads (appendA E t xt s x id h) (ApR E O P μ id h (Builtin.append_ ts ty args) w) := by
  unfold appendA
  cases he : E.elem t with
  | none => exact .bad
  | some e =>
    cases hti : E.tt.get none e with
    | none => simp only [hti]; exact .bad
    | some ti =>
      simp only [hti]
      unfold appendZ
      cases hz : E.isNum xt with
      | none => exact .bad
      | some z =>
        simp only [appendE]
        cases hnew : newCells E e ti.size z x h with
        | none => exact .bad
        | some nn =>
          obtain ⟨n, new⟩ := nn
          apply guard_leads
          intro hck
          simp only [Bool.and_eq_true, bears, Nat.ble_eq] at hck
          obtain ⟨⟨g1, g2⟩, g3⟩ := hck
          have hzz : ∃ zz, E.zero e = some zz ∧ sized zz ti.size = true := by
            unfold zeroOk at g3
            cases hz0 : E.zero e with
            | none => rw [hz0] at g3; cases g3
            | some zz => rw [hz0] at g3; exact ⟨zz, rfl, g3⟩
          obtain ⟨zz, hzz, hzs⟩ := hzz
          obtain ⟨n1, n2, n3, n4⟩ := new_ok ok hx hnew
          have key : ∀ base sLen sCap, s' = .slice base sLen sCap → lenSl s = sLen → Leads (appendTo s ti.size e id h n new) (ApR E O P μ id h (Builtin.append_ ts ty args) w) := by
            rintro base sLen sCap rfl hlen
            rw [hlen] at g1 g2
            have hnorm := append_norm ok (w := w) (ty := ty) (sCap := sCap) ht hxt ha hb (elem_ok he) hti hz (fun hh => n2 hh w) n3 g2 g1
            refine (appendTo_ok ok (bytes := ti.bytes) (app := appended z ti.size n e x') r hn hs n1 (by unfold Env.size; rw [hti]; rfl) hzz hzs (fun w1 r1 => n4 O w1 r1)).mono ?_
            rintro y ⟨v, q1, μ', v', w', q2, q3, q4⟩
            exact ⟨v, q1, μ', v', w', q2, by rw [hnorm]; exact q3, q4⟩
          cases hs with
          | nilSlice => exact key none 0 0 rfl rfl
          | slice hp hop => exact key _ _ _ rfl rfl
          | _ => exact .bad

theorem copy_ok {O : Own} {μ : Mu} {h : Heap} {w : World} (r : HRel E O μ h w.heap) {t ty : TypeId} {d s : AV} {d' s' : Value} {ts : Array TypeId} {args : Array Value}
    (ht : ts[0]? = some t) (ha : args[0]? = some d') (hb : args[1]? = some s') (hd : VR μ d d') (hs : VR μ s s') :
    Leads (copyA E t d s h) fun y => ∃ v, y.1 = .val v ∧ ∃ v' w', (Builtin.copy_ ts ty args).run P w = .ok v' w' ∧ VR μ v v' ∧ PutR E O μ w w' y.2 ∧ y.2.next = h.next := by
  unfold copyA
  cases he : E.elem t with
  | none => exact .bad
  | some e =>
  cases hsz : E.size e with
  | none => simp only [Option.bind_some, hsz]; exact .bad
  | some size =>
  cases hdl : lenOfA d with
  | none => simp only [Option.bind_some, hsz]; exact .bad
  | some dl =>
  cases hsl : lenOfA s with
  | none => simp only [Option.bind_some, hsz]; exact .bad
  | some sl =>
    simp only [Option.bind_some, hsz]
    cases hf : firstA size (Nat.min sl dl) h s with
    | none => exact .bad
    | some new =>
      simp only
      have hu := runUnder ok (elem_ok he) w
      have hlen := lenOf_ok (P := P) (w := w) hs hsl
      obtain ⟨new', n1, n2⟩ := first_ok (P := P) r hs hf
      have hnl : new.length = Nat.min sl dl * size := by
        refine first_lenN (fun hh => ?_) hf
        subst hh
        simp only [lenOfA, Option.some.injEq] at hsl
        subst hsl
        exact Nat.zero_min dl
      have start : ∀ base dLen dCap, d' = .slice base dLen dCap → dLen = dl → (Builtin.copy_ ts ty args).run P w =
          ((if let some a := base then storeCells a new' else pure () : Sem Unit).run P w).andThen fun _ w => .ok (goInt (Nat.min sl dl : Nat)) w := by
        rintro base dLen dCap rfl rfl
        simp only [Builtin.copy_, ht, ha, hb, Sem.run_bind, hu, Result.andThen_ok, hlen, size_ok ok hsz, n2]
        cases base with
        | none => rfl
        | some a => simp only [Sem.run_bind, Sem.run_pure]
      unfold copyTo
      split
      · rename_i b off dl2 cap op
        cases hd with | slice hp hop =>
        rename_i p
        have hdd : dl2 = dl := by simpa [lenOfA] using hdl
        have st := start _ _ _ rfl hdd
        simp only at st
        unfold copyIn
        split
        · rename_i h0
          have hnew : new = [] := List.length_eq_zero_iff.1 (by rw [hnl, h0]; simp)
          subst hnew
          cases n1
          rw [h0] at st
          exact .ret ⟨_, rfl, _, w, st, .int _ _, ⟨Step.refl O w, r⟩, rfl⟩
        · rename_i m h0
          cases hc : h.cells b with
          | none => exact .bad
          | some ceo =>
            obtain ⟨c, eb, o⟩ := ceo
            simp only
            cases hsp : splice new off c with
            | none => exact .bad
            | some c2 =>
              apply guard_leads
              intro hsc
              obtain ⟨w', g1, g2, g3⟩ := storeCells_ok (P := P) r hc hp n1 hsc hsp
              rw [g1, h0] at st
              exact .ret ⟨_, rfl, _, w', st, .int _ _, ⟨g2, g3⟩, rfl⟩
      · cases hd
        have hdd : dl = 0 := by simpa [lenOfA] using hdl.symm
        have st := start _ _ _ rfl hdd.symm
        have h0 : Nat.min sl dl = 0 := by rw [hdd]; exact Nat.min_zero sl
        rw [h0] at st
        exact .ret ⟨_, rfl, _, w, st, .int _ _, ⟨Step.refl O w, r⟩, rfl⟩
      · exact .bad

end
end Go.Ab
end
section
namespace Go.Ab

def FullR (E : Env) (O : Own) (P : Program) (μ : Mu) (id : Nat) (h : Heap) (w : World) (m : Sem Next) (x : OR × Heap) : Prop :=
  match x with
  | (.val v, h') => ∃ μ' w' nx v', (μ' = μ ∨ ∃ p, μ' = μ.add id p) ∧ m.run P w = .ok nx w' ∧ (nx = .value v' ∨ (nx = .skip ∧ v' = undef) ∨ (nx = .recover ∧ v' = .nilIface)) ∧ VR μ' v v' ∧ Step O w w' ∧ HRel E O μ' h' w'.heap ∧ h'.next = h.next
  | (.enter f args, h') => h' = h ∧ ∃ args', VRL μ args args'.toList ∧ m.run P w = (callFunc f args').run P w
  | (.round l args, h') => h' = h ∧ ∃ p args', μ l = some p ∧ VRL μ args args'.toList ∧ m.run P w = (Instr.yield p.blk args').run P w
  | (.defer d, h') => h' = h ∧ ∃ d', DR μ d d' ∧ m.run P w = .ok (.defer d') w

section
variable {E : Env} {P : Program} (ok : EnvOk E P) {O : Own} {μ : Mu} {h : Heap} {w : World}

theorem FullR.ofPut {id : Nat} {s : Sem Value} {m : Sem Next} {y : OR × Heap} (hm : ∀ v w', s.run P w = .ok v w' → m.run P w = .ok (.value v) w')
    (hy : ∃ v, y.1 = .val v ∧ ∃ v' w', s.run P w = .ok v' w' ∧ VR μ v v' ∧ PutR E O μ w w' y.2 ∧ y.2.next = h.next) : FullR E O P μ id h w m y := by
  obtain ⟨o, h'⟩ := y
  obtain ⟨v, rfl, v', w', h1, h2, h3, h4⟩ := hy
  exact ⟨μ, w', _, v', .inl rfl, hm _ _ h1, .inl rfl, h2, h3.1, h3.2, h4⟩

theorem FullR.ofSkip {id : Nat} {s : Sem Unit} {m : Sem Next} {y : OR × Heap} (hm : ∀ w', s.run P w = .ok () w' → m.run P w = .ok .skip w')
    (hy : y.1 = .val undefA ∧ ∃ w', s.run P w = .ok () w' ∧ PutR E O μ w w' y.2 ∧ y.2.next = h.next) : FullR E O P μ id h w m y := by
  obtain ⟨o, h'⟩ := y
  obtain ⟨rfl, w', h1, h3, h4⟩ := hy
  exact ⟨μ, w', _, undef, .inl rfl, hm _ h1, .inr (.inl ⟨rfl, rfl⟩), vr_undef μ, h3.1, h3.2, h4⟩

theorem FullR.ofAp {id : Nat} {s : Sem Value} {m : Sem Next} {y : OR × Heap} (hm : ∀ v w', s.run P w = .ok v w' → m.run P w = .ok (.value v) w') (hy : ApR E O P μ id h s w y) : FullR E O P μ id h w m y := by
  obtain ⟨o, h'⟩ := y
  obtain ⟨v, rfl, μ', v', w', q, h1, h2, h3, h4, h5⟩ := hy
  exact ⟨μ', w', _, v', q, hm _ _ h1, .inl rfl, h2, h3, h4, h5⟩

include ok

theorem store_ok (r : HRel E O μ h w.heap) {t : TypeId} {b off : Nat} {p : Pl} {v : AV} {v' : Value} {h' : Heap} (hp : μ b = some p) (hv : VR μ v v') (hs : storeA E t h v (b, off) = some h') :
    ∃ w', (Instr.storeAt t (.pointer (some ⟨p.blk, p.sh + off, none⟩)) v').run P w = .ok () w' ∧ PutR E O μ w w' h' ∧ h'.next = h.next := by
  unfold storeA at hs
  cases hn : E.size t with
  | none => rw [hn] at hs; cases hs
  | some n =>
    cases hc : h.cells b with
    | none => simp only [hn, hc] at hs; cases hs
    | some ceo =>
      obtain ⟨c, e, o⟩ := ceo
      simp only [hn, hc] at hs
      obtain ⟨g1, g2⟩ := guard_some hs
      simp only [Bool.and_eq_true] at g1
      obtain ⟨s1, s2, s3⟩ := sized_rel g1.1 hv
      cases hsp : splice v.cells off c with
      | none => rw [hsp] at g2; cases g2
      | some c2 =>
        rw [hsp] at g2
        simp only [Option.map_some, Option.some.injEq] at g2
        subst g2
        obtain ⟨w', k1, k2, k3⟩ := storeCells_ok (P := P) r hc hp s2 g1.2 hsp
        refine ⟨w', ?_, ⟨k2, k3⟩, rfl⟩
        simp only [Instr.storeAt, Instr.sureAddr, Sem.run_bind, Sem.run_pure, Result.andThen_ok, storeVar, size_ok ok hn]
        rw [if_neg (by simp [s3])]
        exact k1

omit ok in
theorem invoke_ok {id : Nat} {f : AV} {f' : Value} {args : List AV} {args' : Array Value} (hf : VR μ f f') (ha : VRL μ args args'.toList) :
    Leads (invokeA f args h) (FullR E O P μ id h w (do let d ← Deferred.ofValue f' args'; Go.invoke d.target d.args)) := by
  unfold invokeA
  split
  · cases hf with | func h1 h2 =>
    rename_i f first cap first' cap'
    refine .ret ⟨rfl, first' ++ args' ++ cap', ?_, ?_⟩
    · have := (h1.append ha).append h2
      simpa using this
    · simp [Deferred.ofValue, Go.invoke]
  · cases hf with | yld hl =>
    rename_i p
    refine .ret ⟨rfl, p, args', hl, ha, ?_⟩
    simp [Deferred.ofValue, Go.invoke]
  · exact .bad

/-- EVERY OPERATION THAT DOES MORE. -/
theorem full_ok {o : Oper} {f : XF} (hf : doOp o.op E = .full f) {tm : T AV} {a : Act} {id : Nat} (rt : TmR μ tm a.tmps) (r : HRel E O μ h w.heap) (hn : μ id = none) :
    Leads (f E tm id h) (FullR E O P μ id h w (execOp a.eval o)) := by
  obtain ⟨dst, op, type, pos, after, guard⟩ := o
  cases op <;> simp only [doOp] at hf <;> try (cases hf; done)
  case store t x y =>
    cases hf
    unfold xStore
    cases hp : ptrOf (operand tm x) with
    | none => exact .bad
    | some q =>
      obtain ⟨b, off⟩ := q
      simp only [Option.bind_some]
      cases hs : storeA E t h (operand tm y) (b, off) with
      | none => exact .bad
      | some h' =>
        have hx := operand_rel rt x
        rw [ptrOf_ok hp] at hx
        generalize hxv : a.eval x = xv at hx
        cases hx with | ptr hm =>
        obtain ⟨w', k1, k2, k3⟩ := store_ok ok r hm (operand_rel rt y) hs
        refine .ret (FullR.ofSkip (s := Instr.storeAt t (a.eval x) (a.eval y)) (fun w' h => by simp [execOp, h]) ⟨rfl, w', by rw [hxv]; exact k1, k2, k3⟩)
  case mapUpdate t m k v =>
    cases hf
    exact (update_ok ok r (operand_rel rt m) (operand_rel rt k) (operand_rel rt v)).mono fun y hy => FullR.ofSkip (fun w' h => by simp [execOp, h]) hy
  case insert t m k v =>
    cases hf
    exact (update_ok ok r (operand_rel rt m) (operand_rel rt k) (operand_rel rt v)).mono fun y hy => FullR.ofSkip (fun w' h => by simp [execOp, h]) hy
  case range t x =>
    cases hf
    unfold xRange
    cases hr : rangeA E t (operand tm x) h with
    | none => exact .bad
    | some og =>
      obtain ⟨ob, g⟩ := og
      obtain ⟨v', w', k1, p, k2, k3, k4⟩ := range_ok ok r hn (operand_rel rt x) hr
      exact .ret ⟨_, w', _, v', .inr ⟨p, rfl⟩, by simp [execOp, k1], .inl rfl, k4, k2, k3, rfl⟩
  case next x s =>
    cases hf
    exact (next_ok r (operand_rel rt x) s type).mono fun y hy => FullR.ofPut (fun v w' h => by simp [execOp, h]) hy
  case entry x =>
    cases hf
    simp only [xEntry]
    cases he : entryA (operand tm x) h with
    | none => exact .bad
    | some v =>
      obtain ⟨v', k1, k2⟩ := entry_ok (P := P) r (operand_rel rt x) he
      exact .ret (FullR.ofPut (s := Instr.entry (a.eval x)) (fun v w' h => by simp [execOp, h]) ⟨v, rfl, v', w, k1, k2, ⟨Step.refl O w, r⟩, rfl⟩)
  case convert s d x =>
    unfold convD at hf
    split at hf
    · cases hf
    · rename_i e0 e h0 hd
      cases hf
      show Leads (opt (convSlices s d (operand tm x) e E h) h) _
      cases hv : convSlices s d (operand tm x) e E h with
      | none => exact .bad
      | some v =>
        obtain ⟨v', w', h1, h2, h3⟩ := convSlices_ok ok h0 hd (operand_rel rt x) r hv
        exact .ret (FullR.ofPut (s := convert s d (a.eval x)) (fun v w' h => by simp [execOp, h]) ⟨v, rfl, v', w', h1, h2, ⟨h3.step, h3.rel h r⟩, rfl⟩)
    · cases hf
    · cases hf
    · cases hf
  case call c =>
    obtain ⟨callee, args, argTypes⟩ := c
    have hargs := operands_rel rt args.toList
    have hb : ∀ b consts, (execOp a.eval ⟨dst, .call ⟨callee, args, argTypes⟩, type, pos, after, guard⟩).run P w = (Go.builtin b argTypes type consts (args.map a.eval)).run P w →
        Leads (builtinA b E argTypes.toList (operands tm args.toList) id h) (FullR E O P μ id h w (execOp a.eval ⟨dst, .call ⟨callee, args, argTypes⟩, type, pos, after, guard⟩)) := by
      intro b consts hrun
      unfold builtinA
      have hl : ∀ x y, operands tm args.toList = [x, y] → ∃ x' y', (args.map a.eval)[0]? = some x' ∧ (args.map a.eval)[1]? = some y' ∧ VR μ x x' ∧ VR μ y y' := by
        intro x y hxy
        rw [hxy] at hargs
        generalize hq : args.toList.map a.eval = q at hargs
        cases hargs with | cons h1 h2 =>
        cases h2 with | cons h2 h3 =>
        cases h3
        have hm : (args.map a.eval).toList = args.toList.map a.eval := by simp
        refine ⟨_, _, ?_, ?_, h1, h2⟩ <;> rw [← Array.getElem?_toList, hm, hq] <;> rfl
      split
      · rename_i t ts x y hts hxy
        obtain ⟨x', y', g0, g1, h1, h2⟩ := hl x y hxy
        have ht : argTypes[0]? = some t := by rw [← Array.getElem?_toList, hts]; rfl
        have hxt : argTypes[1]? = ts.head? := by rw [← Array.getElem?_toList, hts]; cases ts <;> rfl
        refine (append_ok ok (ty := type) r hn ht hxt g0 g1 h1 h2).mono fun y hy => FullR.ofAp (fun v w' h => ?_) hy
        rw [hrun]; simp [Go.builtin, h]
      · rename_i t ts x y hts hxy
        obtain ⟨x', y', g0, g1, h1, h2⟩ := hl x y hxy
        have ht : argTypes[0]? = some t := by rw [← Array.getElem?_toList, hts]; rfl
        refine (copy_ok ok (ty := type) r ht g0 g1 h1 h2).mono fun y hy => FullR.ofPut (fun v w' h => ?_) hy
        rw [hrun]; simp [Go.builtin, h]
      · rename_i t ts x y hts hxy
        obtain ⟨x', y', g0, g1, h1, h2⟩ := hl x y hxy
        have ht : argTypes[0]? = some t := by rw [← Array.getElem?_toList, hts]; rfl
        refine (delete_ok ok (ty := type) r ht g0 g1 h1 h2).mono fun y hy => ?_
        obtain ⟨k1, w', k2, k3, k4⟩ := hy
        refine FullR.ofPut (s := Builtin.delete_ argTypes type (args.map a.eval)) (fun v w' h => ?_) ⟨undefA, k1, _, w', k2, vr_undef μ, k3, k4⟩
        rw [hrun]; simp [Go.builtin, h]
      · exact .bad
    unfold callD at hf
    simp only at hf
    split at hf
    · rename_i b
      have hrun : ∃ consts, (execOp a.eval ⟨dst, .call ⟨.builtin b, args, argTypes⟩, type, pos, after, guard⟩).run P w = (Go.builtin b argTypes type consts (args.map a.eval)).run P w :=
        ⟨_, by simp only [execOp, resolve, Sem.run_bind, Sem.run_pure, Result.andThen_ok, Go.invoke]; rfl⟩
      obtain ⟨consts, hrun⟩ := hrun
      unfold builtinD at hf
      split at hf
      · unfold lenD at hf; split at hf <;> cases hf
      · cases hf
      · cases hf
      · cases hf
      · cases hf
        refine .ret ⟨μ, w, .recover, .nilIface, .inl rfl, ?_, .inr (.inr ⟨rfl, rfl⟩), .nilIface, Step.refl O w, r, rfl⟩
        rw [hrun]; simp [Go.builtin]
      · cases hf; exact hb _ _ hrun
      · cases hf; exact hb _ _ hrun
      · cases hf; exact hb _ _ hrun
      · cases hf
    · rename_i g
      cases hf
      have := invoke_ok (E := E) (P := P) (O := O) (μ := μ) (h := h) (w := w) (id := id) (operand_rel rt g) (args := operands tm args.toList) (args' := args.map a.eval) (by simpa using hargs)
      exact this
    · cases hf
  case defer c =>
    cases hf
    unfold xDefer
    split
    · rename_i g hg
      unfold deferA
      split
      · rename_i f first cap hfn
        have hx := operand_rel rt g
        rw [hfn] at hx
        generalize hgv : a.eval g = gv at hx
        cases hx with | func h1 h2 =>
        rename_i first' cap'
        refine .ret ⟨rfl, { target := .fn (.func f) cap', args := first' ++ c.args.map a.eval }, .call ?_, ?_⟩
        · have := (h1.append (operands_rel rt c.args.toList)).append h2
          simpa using this
        · simp [execOp, resolve, hg, hgv, Deferred.ofValue]
      · exact .bad
    · exact .bad

end
end Go.Ab
end
section
namespace Go.Ab

/-- every outcome -/
inductive AllC {β : Type} : CT β → (β → Prop) → Prop where
  | ret {b : β} {Φ : β → Prop} : Φ b → AllC (.ret b) Φ
  | bad {Φ : β → Prop} : AllC .bad Φ
  | pick {n : Nat} {k : Nat → CT β} {Φ : β → Prop} : (∀ i, i < n → AllC (k i) Φ) → AllC (.pick n k) Φ

theorem AllC.mono {β : Type} {m : CT β} {Φ Ψ : β → Prop} (h : AllC m Φ) (hp : ∀ b, Φ b → Ψ b) : AllC m Ψ := by
  induction h with
  | ret h => exact .ret (hp _ h)
  | bad => exact .bad
  | pick _ ih => exact .pick fun i hi => ih i hi hp
theorem Leads.both {β : Type} {m : CT β} {Φ Ψ : β → Prop} (h : Leads m Φ) (ha : AllC m Ψ) : Leads m fun b => Φ b ∧ Ψ b := by
  induction h with
  | ret h => cases ha with | ret h2 => exact .ret ⟨h, h2⟩
  | bad => exact .bad
  | pick i hi _ ih => cases ha with | pick h2 => exact .pick i hi (ih (h2 i hi))
theorem guard_all {β : Type} {b : Bool} {m : CT β} {Φ : β → Prop} (h : b = true → AllC m Φ) : AllC (Bool.rec .bad m b : CT β) Φ := by
  cases b with
  | false => exact .bad
  | true => exact h rfl

structure GrowL (id : Nat) (h h' : Heap) : Prop where
  log : ∀ b, b ∈ h.log → b ∈ h'.log
  same : ∀ b, b ∉ h'.log → h'.get b = h.get b
  none : ∀ b, b ≠ id → h.get b = none → h'.get b = none
  has : ∀ b, h'.t.has b = h.t.has b

theorem GrowL.refl (id : Nat) (h : Heap) : GrowL id h h := ⟨fun _ hb => hb, fun _ _ => rfl, fun _ _ hb => hb, fun _ => rfl⟩
theorem GrowL.trans {id : Nat} {h h1 h2 : Heap} (a : GrowL id h h1) (b : GrowL id h1 h2) : GrowL id h h2 :=
  ⟨fun c hc => b.log c (a.log c hc), fun c hc => (b.same c hc).trans (a.same c fun hh => hc (b.log c hh)), fun c hc hn => b.none c hc (a.none c hc hn), fun c => (b.has c).trans (a.has c)⟩
theorem Heap.log_put (h : Heap) (b : Nat) (o : AObj) : (h.put b o).log = b :: h.log := rfl
theorem Heap.log_drop (h : Heap) (b : Nat) : (h.drop b).log = b :: h.log := rfl
theorem GrowL.put {id : Nat} {h : Heap} {b : Nat} {o : AObj} (hb : b = id ∨ ∃ x, h.get b = some x) : GrowL id h (h.put b o) := by
  refine ⟨fun c hc => by rw [Heap.log_put]; exact List.mem_cons_of_mem _ hc, fun c hc => ?_, fun c hc hn => ?_, fun c => T.has_set h.t b c (some o)⟩
  · rw [Heap.log_put] at hc
    exact h.get_put_ne b c o fun e => hc (e ▸ List.mem_cons_self)
  · by_cases e : c = b
    · subst e
      rcases hb with hb | ⟨x, hx⟩
      · exact absurd hb hc
      · rw [hx] at hn; cases hn
    · rw [h.get_put_ne b c o e]; exact hn
theorem GrowL.drop {id : Nat} {h : Heap} (b : Nat) : GrowL id h (h.drop b) := by
  refine ⟨fun c hc => by rw [Heap.log_drop]; exact List.mem_cons_of_mem _ hc, fun c hc => ?_, fun c hc hn => ?_, fun c => T.has_set h.t b c Option.none⟩
  · rw [Heap.log_drop] at hc
    exact h.get_drop_ne b c fun e => hc (e ▸ List.mem_cons_self)
  · by_cases e : c = b
    · subst e; exact h.get_drop c
    · rw [h.get_drop_ne b c e]; exact hn

abbrev GrR (id : Nat) (h : Heap) (m : R) : Prop := AllC m fun x => GrowL id h x.2

theorem cells_some {h : Heap} {b : Nat} {x : List AV × TypeId × Bool} (e : h.cells b = some x) : ∃ o, h.get b = some o := by
  unfold Heap.cells at e
  cases hg : h.get b with
  | none => rw [hg] at e; cases e
  | some o => exact ⟨o, rfl⟩
theorem mapAt_some {h : Heap} {b : Nat} {x : List (AV × AV) × Nat} (e : h.mapAt b = some x) : ∃ o, h.get b = some o := by
  unfold Heap.mapAt at e
  cases hg : h.get b with
  | none => rw [hg] at e; cases e
  | some o => exact ⟨o, rfl⟩

theorem val_gr {id : Nat} {h : Heap} (v : AV) : GrR id h (val v h) := .ret (.refl id h)
theorem opt_gr {id : Nat} {h : Heap} (v : Option AV) : GrR id h (opt v h) := by
  unfold opt
  split
  · exact val_gr _
  · exact .bad

section
variable {E : Env} {id : Nat} {h : Heap}

theorem store_gr {t : TypeId} {v : AV} {p : Nat × Nat} {h' : Heap} (hs : storeA E t h v p = some h') : GrowL id h h' := by
  unfold storeA at hs
  split at hs
  · rename_i n c e o _ hc
    obtain ⟨_, g⟩ := guard_some hs
    cases hsp : splice v.cells p.2 c with
    | none => rw [hsp] at g; cases g
    | some c2 =>
      rw [hsp] at g
      simp only [Option.map_some, Option.some.injEq] at g
      subst g
      exact .put (.inr (cells_some hc))
  · cases hs

theorem update_gr {t : TypeId} {x k v : AV} : GrR id h (updateA E t x k v h) := by
  unfold updateA
  split
  · apply guard_all
    intro _
    unfold updateM
    split
    · rename_i es m hm
      split
      · exact .ret (.put (.inr (mapAt_some hm)))
      · exact .ret (.put (.inr (mapAt_some hm)))
      · exact .bad
    · exact .bad
  · exact .bad

theorem delete_gr {t : TypeId} {m k : AV} : GrR id h (deleteA E t m k h) := by
  unfold deleteA
  split
  · apply guard_all; intro _; exact val_gr _
  · apply guard_all
    intro _
    unfold deleteM
    split
    · rename_i es mo hm
      split
      · exact .ret (.put (.inr (mapAt_some hm)))
      · exact val_gr _
      · exact .bad
    · exact .bad
  · exact .bad

theorem next_gr {it : AV} {s : Bool} : GrR id h (nextA it s h) := by
  unfold nextA
  split
  · rename_i r
    split
    · rename_i o ho
      unfold nextO
      split
      · apply guard_all
        intro _
        unfold nextStr
        split
        · apply guard_all; intro _; exact .ret (.put (.inr ⟨_, ho⟩))
        · exact val_gr _
      · cases s
        · exact val_gr _
        · exact .bad
      · cases s
        · rename_i m mods seen
          show GrR id h (nextMap r m mods seen h)
          unfold nextMap
          split
          · apply guard_all
            intro _
            have hat : ∀ e, GrR id h (nextAt r m mods seen e h) := by
              intro e
              unfold nextAt
              split
              · exact .ret (.put (.inr ⟨_, ho⟩))
              · exact .bad
            unfold nextOf
            split
            · exact val_gr _
            · exact hat _
            · exact .pick fun i _ => hat _
          · exact .bad
        · exact .bad
      · exact .bad
    · exact .bad
  · exact .bad

theorem append_gr {t : TypeId} {xt : Option TypeId} {s x : AV} : GrR id h (appendA E t xt s x id h) := by
  unfold appendA
  split
  · split
    · unfold appendZ
      split
      · unfold appendE
        split
        · apply guard_all
          intro _
          unfold appendTo
          split
          · split
            · exact val_gr _
            · exact .ret (.put (.inl rfl))
          · have hout : ∀ b off ln n op size e new, GrR id h (appendOut b off ln n op size e id new h) := by
              intro b off ln n op size e new
              unfold appendOut
              split
              · unfold appendNew
                split
                · apply guard_all
                  intro _
                  cases Nat.beq op 0 with
                  | true => exact .ret (GrowL.put (.inl rfl))
                  | false => exact .ret ((GrowL.put (.inl rfl)).trans (.drop _))
                · exact .bad
              · exact .bad
            have hin : ∀ b off ln n cap op size new, GrR id h (appendIn b off ln n cap op size new h) := by
              intro b off ln n cap op size new
              unfold appendIn
              split
              · exact val_gr _
              · split
                · rename_i hc
                  split
                  · apply guard_all; intro _; exact .ret (.put (.inr (cells_some hc)))
                  · exact .bad
                · exact .bad
            rename_i b off ln cap op
            generalize Nat.ble _ _ = bb
            cases bb with
            | false => exact hout _ _ _ _ _ _ _ _
            | true => exact hin _ _ _ _ _ _ _ _
          · exact .bad
        · exact .bad
      · exact .bad
    · exact .bad
  · exact .bad

theorem copy_gr {t : TypeId} {d s : AV} : GrR id h (copyA E t d s h) := by
  unfold copyA
  split
  · split
    · unfold copyTo
      split
      · unfold copyIn
        split
        · exact val_gr _
        · split
          · rename_i hc
            split
            · apply guard_all; intro _; exact .ret (.put (.inr (cells_some hc)))
            · exact .bad
          · exact .bad
      · exact val_gr _
      · exact .bad
    · exact .bad
  · exact .bad

theorem invoke_gr {f : AV} {args : List AV} : GrR id h (invokeA f args h) := by
  unfold invokeA
  split
  · exact .ret (.refl id h)
  · exact .ret (.refl id h)
  · exact .bad

theorem call_gr {c : Call} {tm : T AV} : GrR id h (xCall c E tm id h) := by
  unfold xCall
  cases c.callee with
  | builtin b =>
    show GrR id h (builtinA b E _ _ id h)
    unfold builtinA
    split
    · exact append_gr
    · exact copy_gr
    · exact delete_gr
    · exact .bad
  | value f => exact invoke_gr
  | invoke a b => exact .bad

/-- EVERY OPERATION THAT DOES MORE: what it does not log is as it was. -/
theorem full_gr {o : Oper} {f : XF} (hf : doOp o.op E = .full f) (tm : T AV) : GrR id h (f E tm id h) := by
  obtain ⟨dst, op, type, pos, after, guard⟩ := o
  cases op <;> simp only [doOp] at hf <;> try (cases hf; done)
  case store t x y =>
    cases hf
    unfold xStore
    split
    · rename_i h' hs
      cases hp : ptrOf (operand tm x) with
      | none => rw [hp] at hs; cases hs
      | some q => rw [hp] at hs; exact .ret (store_gr hs)
    · exact .bad
  case mapUpdate t m k v => cases hf; exact update_gr
  case insert t m k v => cases hf; exact update_gr
  case range t x =>
    cases hf
    unfold xRange
    split
    · exact .ret (.put (.inl rfl))
    · exact .bad
  case next x s => cases hf; exact next_gr
  case entry x => cases hf; exact opt_gr _
  case convert s d x =>
    unfold convD at hf
    split at hf
    · cases hf
    · cases hf; exact opt_gr _
    · cases hf
    · cases hf
    · cases hf
  case call c =>
    unfold callD at hf
    split at hf
    · unfold builtinD at hf
      split at hf
      · unfold lenD at hf; split at hf <;> cases hf
      · cases hf
      · cases hf
      · cases hf
      · cases hf; exact val_gr _
      · cases hf; exact call_gr
      · cases hf; exact call_gr
      · cases hf; exact call_gr
      · cases hf
    · cases hf; exact call_gr
    · cases hf
  case defer c =>
    cases hf
    unfold xDefer
    split
    · unfold deferA
      split
      · exact .ret (.refl id h)
      · exact .bad
    · exact .bad

end
end Go.Ab
end
