/- Slices, fields, elements: the abstract machine's words are the model's. Every operation that gives a value and leaves the heap alone. Conditions: none. -/
import Derived.Test.YtbclmkfibgmgdaaGreatDoorRdVG
section
namespace Go.Ab

inductive OptR (μ : Mu) : Option AV → Option Value → Prop
  | none : OptR μ none none
  | some {a : AV} {v : Value} : VR μ a v → OptR μ (some a) (some v)

theorem asN_ok {x : AV} {x' : Value} {n : Nat} {μ : Mu} (h : asN x = some n) (hx : VR μ x x') : ∃ k, x' = .int k (n : Int) := by
  cases x <;> simp [asN] at h
  rename_i k i
  cases hx
  cases i <;> simp [natOf] at h
  subst h; exact ⟨k, rfl⟩

theorem bound_ok {x' : Value} {k : IntKind} {i y : Nat} {c : BoundsCode} (hx : x' = .int k (i : Int)) (hi : i ≤ y) (P : Program) (w : World) :
    (Instr.sliceBound x' y c).run P w = .ok i w := by
  subst hx
  have h1 : (0 : Int) ≤ (i : Int) ∧ (i : Int) ≤ (y : Int) := ⟨by omega, by omega⟩
  simp only [Instr.sliceBound, Sem.run_bind, asIntOf, Sem.run_pure, Result.andThen_ok, Sem.run_ite, if_pos h1]
  simp

/-- the three bounds, if the third one is at most what the model has -/
theorem bounds_ok {lo hi mx : Option AV} {lo' hi' mx' : Option Value} {μ : Mu} (hlo : OptR μ lo lo') (hhi : OptR μ hi hi') (hmx : OptR μ mx mx') {isS : Bool} {n cap cap' m hh l : Nat}
    (h1 : bnd mx cap = some m) (h2 : bnd hi n = some hh) (h3 : bnd lo 0 = some l) (hw : within l hh m cap = true) (hb : boundsOk hi mx = true) (hc : cap ≤ cap') (P : Program) (w : World) :
    (Instr.sliceBounds isS n cap' lo' hi' mx').run P w = .ok (l, hh, if mx.isNone then cap' else m) w := by
  simp only [within, Bool.and_eq_true, Nat.ble_eq] at hw
  obtain ⟨⟨w1, w2⟩, w3⟩ := hw
  have q1 : mx = none → m = cap := by rintro rfl; simp only [bnd, Option.some.injEq] at h1; exact h1.symm
  have q2 : hi = none → hh = n := by rintro rfl; simp only [bnd, Option.some.injEq] at h2; exact h2.symm
  have q3 : lo = none → l = 0 := by rintro rfl; simp only [bnd, Option.some.injEq] at h3; exact h3.symm
  unfold Instr.sliceBounds
  cases hmx with
  | none =>
    have := q1 rfl; subst this
    cases hhi with
    | none =>
      have := q2 rfl; subst this
      cases hlo with
      | none => have := q3 rfl; subst this; simp
      | some hv => obtain ⟨k, rfl⟩ := asN_ok h3 hv; simp [bound_ok rfl w1]
    | some hu =>
      obtain ⟨k', rfl⟩ := asN_ok h2 hu
      have hle : hh ≤ cap' := by omega
      cases hlo with
      | none => have := q3 rfl; subst this; simp [bound_ok rfl hle]
      | some hv => obtain ⟨k, rfl⟩ := asN_ok h3 hv; simp [bound_ok rfl w1, bound_ok rfl hle]
  | some hz =>
    obtain ⟨k'', rfl⟩ := asN_ok h1 hz
    have hle2 : m ≤ cap' := by omega
    cases hhi with
    | none => simp [boundsOk] at hb
    | some hu =>
      obtain ⟨k', rfl⟩ := asN_ok h2 hu
      cases hlo with
      | none => have := q3 rfl; subst this; simp [bound_ok rfl w2, bound_ok rfl hle2]
      | some hv => obtain ⟨k, rfl⟩ := asN_ok h3 hv; simp [bound_ok rfl w1, bound_ok rfl w2, bound_ok rfl hle2]

theorem offAt_eq (off l m s : Nat) : offAt off l m s = if m = l then off else off + l * s := by
  unfold offAt
  cases h : Nat.beq m l with
  | true => have := Nat.eq_of_beq_eq_true h; subst this; simp
  | false =>
    have : m ≠ l := fun e => by subst e; simp [Nat.beq_refl] at h
    simp [this]

section
variable {E : Env} {P : Program} (ok : EnvOk E P)
include ok

theorem sliceArr_ok {t : TypeId} {n e b off : Nat} {lo hi mx : Option AV} {lo' hi' mx' : Option Value} {μ : Mu} {p : Pl} {v : AV} (hd : E.under t = some (.array n e)) (hp : μ b = some p)
    (hlo : OptR μ lo lo') (hhi : OptR μ hi hi') (hmx : OptR μ mx mx') (h : sliceArr n e b off lo hi mx E = some v) (w : World) :
    ∃ v', (Instr.sliceAt t (.pointer (some ⟨p.blk, p.sh + off, none⟩)) lo' hi' mx').run P w = .ok v' w ∧ VR μ v v' := by
  unfold sliceArr at h
  cases h1 : bnd mx n with
  | none => simp only [h1] at h; cases h
  | some m =>
  cases h2 : bnd hi n with
  | none => simp only [h1, h2] at h; cases h
  | some hh =>
  cases h3 : bnd lo 0 with
  | none => simp only [h1, h2, h3] at h; cases h
  | some l =>
  cases h4 : E.size e with
  | none => simp only [h1, h2, h3, h4] at h; cases h
  | some s =>
    simp only [h1, h2, h3, h4] at h
    obtain ⟨hw, h5⟩ := guard_some h
    simp only [Bool.and_eq_true] at hw
    simp only [Option.some.injEq] at h5; subst h5
    have hb := bounds_ok hlo hhi hmx (isS := false) h1 h2 h3 hw.1 hw.2 (Nat.le_refl n) P w
    have hm : (if mx.isNone then n else m) = m := by
      cases hmx with
      | none => simp only [bnd, Option.some.injEq] at h1; subst h1; simp
      | some _ => simp
    rw [hm] at hb
    refine ⟨.slice (some ⟨p.blk, p.sh + offAt off l m s, none⟩) (hh - l) (m - l), ?_, ?_⟩
    · simp only [Instr.sliceAt, Sem.run_bind, runUnder ok hd, Result.andThen_ok, Instr.sureAddr, Sem.run_pure, hb, size_ok ok h4]
      rw [offAt_eq]
      by_cases e : m = l
      · simp [e]
      · simp [e, addr_add, Nat.add_assoc]
    · have := VR.slice (μ := μ) (off := offAt off l m s) (n := hh - l) (c := m - l) (op := 0) hp (fun h => absurd rfl h)
      simpa using this

theorem sliceStr_ok {t : TypeId} {s : ByteArray} {lo hi mx : Option AV} {lo' hi' mx' : Option Value} {μ : Mu} {v : AV} (hd : E.under t = some .string)
    (hlo : OptR μ lo lo') (hhi : OptR μ hi hi') (hmx : OptR μ mx mx') (h : sliceStr (bytesL s) lo hi mx = some v) (w : World) :
    ∃ v', (Instr.sliceAt t (.string s) lo' hi' mx').run P w = .ok v' w ∧ VR μ v v' := by
  unfold sliceStr at h
  rw [len_bytes] at h
  cases h2 : bnd hi s.size with
  | none => simp only [h2] at h; cases h
  | some hh =>
  cases h3 : bnd lo 0 with
  | none => simp only [h2, h3] at h; cases h
  | some l =>
    cases hmx with
    | some _ => simp only [h2, h3] at h; cases h
    | none =>
      simp only [h2, h3] at h
      obtain ⟨hle, h4⟩ := guard_some h
      cases hc : cut (bytesL s) l (Nat.sub hh l) with
      | none => rw [hc] at h4; cases h4
      | some r =>
        rw [hc] at h4
        simp only [Option.map_some, Option.some.injEq] at h4; subst h4
        have hle' := Nat.le_of_ble_eq_true hle
        obtain ⟨c1, c2⟩ := cut_eq _ _ _ _ hc
        have hsz : (bytesL s).length = s.size := by rw [← len_eq, len_bytes]
        have hsub : Nat.sub hh l = hh - l := rfl
        have hw : within l hh s.size s.size = true := by
          simp only [within, Bool.and_eq_true, Nat.ble_eq]
          exact ⟨⟨hle', by omega⟩, Nat.le_refl _⟩
        have hb := bounds_ok hlo hhi (OptR.none (μ := μ)) (isS := false) (cap := s.size) (m := s.size) rfl h2 h3 hw (by simp [boundsOk]) (Nat.le_refl _) P w
        refine ⟨.string (s.extract l hh), ?_, ?_⟩
        · have hu := runUnder ok hd w
          simp only [Instr.sliceAt, Sem.run_bind, hu, Result.andThen_ok, Instr.slice, Option.isSome_none, Bool.false_eq_true, if_false]
          simp only [Sem.run_pure, Result.andThen_ok, hb]
        · have : r = bytesL (s.extract l hh) := by
            rw [c2]; unfold bytesL
            rw [Lib.extract_data]; simp
          rw [this]; exact .str _

theorem sliceSl_ok {t : TypeId} {e b off n cap op : Nat} {lo hi mx : Option AV} {lo' hi' mx' : Option Value} {μ : Mu} {v : AV} {x' : Value} (hd : E.under t = some (.slice e))
    (hx : VR μ (.slice b off n cap op) x') (hlo : OptR μ lo lo') (hhi : OptR μ hi hi') (hmx : OptR μ mx mx') (h : sliceSl e b off n cap op lo hi mx E = some v) (w : World) :
    ∃ v', (Instr.sliceAt t x' lo' hi' mx').run P w = .ok v' w ∧ VR μ v v' := by
  cases hx with | slice hp hop =>
  rename_i p
  unfold sliceSl at h
  cases h1 : bnd mx cap with
  | none => simp only [h1] at h; cases h
  | some m =>
  cases h2 : bnd hi n with
  | none => simp only [h1, h2] at h; cases h
  | some hh =>
  cases h3 : bnd lo 0 with
  | none => simp only [h1, h2, h3] at h; cases h
  | some l =>
  cases h4 : E.size e with
  | none => simp only [h1, h2, h3, h4] at h; cases h
  | some s =>
    simp only [h1, h2, h3, h4] at h
    obtain ⟨hw, h5⟩ := guard_some h
    simp only [Bool.and_eq_true] at hw
    have hb := bounds_ok hlo hhi hmx (isS := true) (n := n) (cap' := if op = 0 then cap else cap + p.ext) h1 h2 h3 hw.1 hw.2 (by split <;> omega) P w
    have hw' := hw.1
    simp only [within, Bool.and_eq_true, Nat.ble_eq] at hw'
    have hrun : (Instr.sliceAt t (.slice (some ⟨p.blk, p.sh + off, none⟩) n (if op = 0 then cap else cap + p.ext)) lo' hi' mx').run P w =
        .ok (.slice (if (if mx.isNone then (if op = 0 then cap else cap + p.ext) else m) = l then some ⟨p.blk, p.sh + off, none⟩ else some ⟨p.blk, p.sh + off + l * s, none⟩) (hh - l) ((if mx.isNone then (if op = 0 then cap else cap + p.ext) else m) - l)) w := by
      simp only [Instr.sliceAt, Sem.run_bind, runUnder ok hd, Result.andThen_ok, Instr.slice, hb, size_ok ok h4, Sem.run_pure, Option.map_some, addr_add]
    have hmn : mx = none → m = cap := by rintro rfl; simp only [bnd, Option.some.injEq] at h1; exact h1.symm
    unfold sliceOp at h5
    split at h5
    · -- exact
      simp only [Option.some.injEq] at h5; subst h5
      simp only [if_true] at hrun
      have hm : (if mx.isNone then cap else m) = m := by cases mx with | none => simp [hmn rfl] | some _ => simp
      rw [hm] at hrun
      refine ⟨_, hrun, ?_⟩
      have := VR.slice (μ := μ) (off := offAt off l m s) (n := hh - l) (c := m - l) (op := 0) hp (fun h => absurd rfl h)
      rw [offAt_eq] at this ⊢
      by_cases e : m = l
      · simpa [e] using this
      · simpa [e, Nat.add_assoc] using this
    · -- with a third bound
      simp only [Option.some.injEq] at h5; subst h5
      simp only [Option.isNone_some, Bool.false_eq_true, if_false] at hrun
      refine ⟨_, hrun, ?_⟩
      have := VR.slice (μ := μ) (off := offAt off l m s) (n := hh - l) (c := m - l) (op := 0) hp (fun h => absurd rfl h)
      rw [offAt_eq] at this ⊢
      by_cases e : m = l
      · simpa [e] using this
      · simpa [e, Nat.add_assoc] using this
    · rename_i o
      have hm := hmn rfl
      subst hm
      obtain ⟨o1, o2, o3⟩ := hop (by omega)
      have hz : ¬ (o + 1 = 0) := by omega
      simp only [Option.isNone_none, if_true, if_neg hz] at hrun
      cases hml : Nat.beq m l with
      | true =>
        rw [hml] at h5
        have h6 : some AV.empty = some v := h5
        simp only [Option.some.injEq] at h6; subst h6
        have hml := Nat.eq_of_beq_eq_true hml
        have h0 : hh - l = 0 := by omega
        rw [h0] at hrun
        split at hrun
        · exact ⟨_, hrun, .empty⟩
        · exact ⟨_, hrun, .empty⟩
      | false =>
        rw [hml] at h5
        obtain ⟨hos, h6⟩ := guard_some (b := Nat.beq o s) h5
        simp only [Option.some.injEq] at h6; subst h6
        have hne : m ≠ l := fun e => by subst e; simp [Nat.beq_refl] at hml
        have hos' : o = s := Nat.eq_of_beq_eq_true hos
        have hse : s = p.esz := by omega
        rw [if_neg (show ¬ (m + p.ext = l) by omega)] at hrun
        refine ⟨_, hrun, ?_⟩
        have := VR.slice (μ := μ) (off := off + l * s) (n := hh - l) (c := m - l) (op := o + 1) hp (fun _ => ⟨o1, o2, by
          have : l * s + (m - l) * s = m * s := by rw [← Nat.add_mul]; congr 1; omega
          rw [← hse] at o3 ⊢
          omega⟩)
        rw [if_neg hz] at this
        have e1 : m - l + p.ext = m + p.ext - l := by omega
        rw [e1, ← Nat.add_assoc] at this
        exact this

theorem sliceA_ok {t : TypeId} {x v : AV} {x' : Value} {lo hi mx : Option AV} {lo' hi' mx' : Option Value} {μ : Mu} (hx : VR μ x x')
    (hlo : OptR μ lo lo') (hhi : OptR μ hi hi') (hmx : OptR μ mx mx') (h : sliceA E t x lo hi mx = some v) (w : World) :
    ∃ v', (Instr.sliceAt t x' lo' hi' mx').run P w = .ok v' w ∧ VR μ v v' := by
  unfold sliceA at h
  split at h
  · rename_i hd; exact sliceSl_ok ok hd hx hlo hhi hmx h w
  · rename_i hd; cases hx with | str s => exact sliceStr_ok ok hd hlo hhi hmx h w
  · rename_i hd; cases hx with | ptr hp => exact sliceArr_ok ok hd hp hlo hhi hmx h w
  · rename_i e hd
    cases hx
    unfold sliceNil at h
    split at h
    · rename_i s h1 h2 h3 h4
      obtain ⟨hb, h5⟩ := guard_some h
      simp only [Option.some.injEq] at h5; subst h5
      have hbb := bounds_ok hlo hhi hmx (isS := true) (n := 0) (cap' := 0) h1 h2 h3 rfl hb (Nat.le_refl 0) P w
      have hm : (if mx.isNone then 0 else 0) = 0 := by split <;> rfl
      rw [hm] at hbb
      refine ⟨.slice none 0 0, ?_, .nilSlice⟩
      simp only [Instr.sliceAt, Sem.run_bind, runUnder ok hd, Result.andThen_ok, Instr.slice, hbb, size_ok ok h4, Sem.run_pure, Option.map_none, if_true, Nat.sub_self]
    · cases h
  · cases h

/-! fields and elements -/
theorem fieldAddr_ok {s : TypeId} {a' : Value} {f : Nat} {μ : Mu} {b off : Nat} {fd : Field} {fs : List Field} {n : Nat} (hx : VR μ (.ptr b off) a') (hf : E.fields s = some fs) (hfd : nth fs f = some fd)
    (hn : E.size fd.type = some (n + 1)) (w : World) : ∃ v', (Instr.fieldAt s a' f).run P w = .ok v' w ∧ VR μ (.ptr b (Nat.add off fd.offset)) v' := by
  cases hx with | ptr hp =>
  obtain ⟨fa, rfl, hd⟩ := fields_ok hf
  rw [nth_eq] at hfd
  have hfd' : fa[f]? = some fd := by simpa using hfd
  refine ⟨_, ?_, .ptr hp⟩
  simp only [Instr.fieldAt, Sem.run_bind, runUnder ok hd, Result.andThen_ok, hfd', Instr.sureAddr, Sem.run_pure, fieldPlace, size_ok ok hn, Sem.run_ite]
  rw [if_neg (by omega)]
  simp only [Result.andThen_ok, addr_add]
  show _ = Result.ok (Value.pointer (some ⟨_, _ + (off + fd.offset), none⟩)) w
  rw [Nat.add_assoc]

theorem field_ok {t : TypeId} {v : AV} {x' : Value} {f : Nat} {μ : Mu} {fs : List Field} {fd : Field} {cs : List AV} (hx : VR μ (.agg cs) x') (hf : E.fields t = some fs) (hfd : nth fs f = some fd)
    (h : partA E fd.type cs fd.offset = some v) (w : World) : ∃ v', (Instr.field t x' f).run P w = .ok v' w ∧ VR μ v v' := by
  cases hx with | agg hc =>
  obtain ⟨fa, rfl, hd⟩ := fields_ok hf
  rw [nth_eq] at hfd
  have hfd' : fa[f]? = some fd := by simpa using hfd
  obtain ⟨v', h1, h2⟩ := partA_ok ok h hc w
  exact ⟨v', by simp only [Instr.field, Sem.run_bind, runUnder ok hd, Result.andThen_ok, hfd', asAgg, Sem.run_pure, h1], h2⟩

omit ok in
theorem addrAt_ok {b off i n e : Nat} {v : AV} (h : addrAt b off i n e E = some v) : ∃ s, i < n ∧ E.size e = some s ∧ v = .ptr b (off + i * s) := by
  unfold addrAt at h
  obtain ⟨h1, h2⟩ := guard_some h
  cases hs : E.size e with
  | none => rw [hs] at h2; cases h2
  | some s => rw [hs] at h2; simp only [Option.map_some, Option.some.injEq] at h2; exact ⟨s, (blt_iff _ _).1 h1, rfl, h2.symm⟩

theorem indexAddr_ok {t : TypeId} {x i v : AV} {x' i' : Value} {μ : Mu} (hx : VR μ x x') (hi : VR μ i i') (h : indexAddrA E t x i = some v) (w : World) :
    ∃ v', (Instr.indexAt t x' i').run P w = .ok v' w ∧ VR μ v v' := by
  unfold indexAddrA at h
  split at h
  · rename_i b off n c op e j hd hj
    cases hx with | slice hp _ =>
    obtain ⟨k, rfl⟩ := asN_ok hj hi
    obtain ⟨s, h1, h2, rfl⟩ := addrAt_ok h
    refine ⟨_, ?_, .ptr hp⟩
    have hlt : (0 : Int) ≤ (j : Int) ∧ (j : Int) < (n : Int) := ⟨by omega, by omega⟩
    simp only [Instr.indexAt, asIntOf, Sem.run_bind, Sem.run_pure, Result.andThen_ok, runUnder ok hd, if_pos hlt, size_ok ok h2, Int.toNat_natCast, addr_add]
    rw [Nat.add_assoc]
  · rename_i b off n e j hd hj
    cases hx with | ptr hp =>
    obtain ⟨k, rfl⟩ := asN_ok hj hi
    obtain ⟨s, h1, h2, rfl⟩ := addrAt_ok h
    refine ⟨_, ?_, .ptr hp⟩
    have hlt : (0 : Int) ≤ (j : Int) ∧ (j : Int) < (n : Int) := ⟨by omega, by omega⟩
    simp only [Instr.indexAt, asIntOf, Sem.run_bind, Sem.run_pure, Result.andThen_ok, runUnder ok hd, Instr.sureAddr, if_pos hlt, size_ok ok h2, Int.toNat_natCast, addr_add]
    rw [Nat.add_assoc]
  · cases h

theorem index_ok {t : TypeId} {x i v : AV} {x' i' : Value} {μ : Mu} (hx : VR μ x x') (hi : VR μ i i') (h : indexVA E t x i = some v) (w : World) :
    ∃ v', (Instr.index t x' i').run P w = .ok v' w ∧ VR μ v v' := by
  unfold indexVA at h
  split at h
  · rename_i cs n e j hd hj
    cases hx with | agg hc =>
    obtain ⟨k, rfl⟩ := asN_ok hj hi
    obtain ⟨h1, h2⟩ := guard_some h
    have h1 := (blt_iff _ _).1 h1
    cases hs : E.size e with
    | none => rw [hs] at h2; cases h2
    | some s =>
      rw [hs] at h2
      obtain ⟨v', h3, h4⟩ := partA_ok ok h2 hc w
      have hlt : (0 : Int) ≤ (j : Int) ∧ (j : Int) < (n : Int) := ⟨by omega, by omega⟩
      refine ⟨v', ?_, h4⟩
      simp only [Instr.index, asIntOf, Sem.run_bind, Sem.run_pure, Result.andThen_ok, runUnder ok hd, if_pos hlt, size_ok ok hs, Int.toNat_natCast]
      exact h3
  · rename_i s j hd hj
    cases hx with | str s =>
    obtain ⟨k, rfl⟩ := asN_ok hj hi
    cases hn : nth (bytesL s) j with
    | none => rw [hn] at h; cases h
    | some c =>
      rw [hn] at h
      simp only [Option.map_some, Option.some.injEq] at h; subst h
      rw [nth_eq] at hn
      unfold bytesL at hn
      simp only [List.getElem?_map] at hn
      cases hb : s.data.toList[j]? with
      | none => rw [hb] at hn; cases hn
      | some b =>
        rw [hb] at hn
        simp only [Option.map_some, Option.some.injEq] at hn; subst hn
        have hge : (0 : Int) ≤ (j : Int) := by omega
        have hsb : s[j]? = some b := by
          have hlt := (List.getElem?_eq_some_iff.1 hb).1
          have hlt' : j < s.size := by rw [Lib.size_eq]; exact hlt
          rw [getElem?_pos s j hlt']
          congr 1
          have := (List.getElem?_eq_some_iff.1 hb).2
          rw [← this]; rfl
        refine ⟨.int .u8 b.toNat, ?_, .int _ _⟩
        simp only [Instr.index, asIntOf, Sem.run_bind, Sem.run_pure, Result.andThen_ok, runUnder ok hd, if_pos hge, Int.toNat_natCast, hsb]
  · cases h

end

end Go.Ab
end
section
namespace Go.Ab

section
variable {E : Env} {P : Program} (ok : EnvOk E P)
include ok

theorem convNum_ok {src dst : TypeId} {d0 d : TypeDesc} {x v : AV} {x' : Value} {μ : Mu} (h0 : E.under src = some d0) (hd : E.under dst = some d) (hx : VR μ x x') (h : convNum x d = some v) (w : World) :
    ∃ v', (convert src dst x').run P w = .ok v' w ∧ VR μ v v' := by
  unfold convNum at h
  split at h
  · split at h
    · cases hx
      simp only [Option.some.injEq] at h; subst h
      exact ⟨_, by simp only [convert, Sem.run_bind, runUnder ok h0, runUnder ok hd, Result.andThen_ok, Conv.intToInt, Sem.run_pure], .int _ _⟩
    · cases h
  · split at h
    · cases hx with | str s =>
      simp only [Option.some.injEq] at h; subst h
      exact ⟨.string s, by simp only [convert, Sem.run_bind, runUnder ok h0, runUnder ok hd, Result.andThen_ok, Sem.run_pure], .str s⟩
    · cases h
  · cases h

omit ok in
theorem byteElem_ok {e : TypeId} (h : E.byteElem e = true) : E.under e = some (.int .u8) := by
  unfold Env.byteElem at h
  cases hd : E.under e with
  | none => rw [hd] at h; cases h
  | some d =>
    rw [hd] at h
    have h' : isByte d = true := h
    unfold isByte at h'
    split at h'
    · rfl
    · cases h'

theorem lenV_ok {t ty : TypeId} {d : TypeDesc} {x v : AV} {x' : Value} {μ : Mu} (hd : E.under t = some d) (hx : VR μ x x') (h : lenV x d = some v) (w : World) :
    ∃ v', (Builtin.len_ #[t] ty #[x']).run P w = .ok v' w ∧ VR μ v v' := by
  have hu := runUnder ok hd w
  unfold lenV at h
  split at h
  · split at h
    · cases hx with | str s =>
      simp only [Option.some.injEq] at h; subst h
      refine ⟨goInt s.size, ?_, by rw [len_bytes]; exact .int _ _⟩
      simp [Builtin.len_, hu]
    · cases h
  · split at h
    · cases hx with | slice hp _ =>
      simp only [Option.some.injEq] at h; subst h
      exact ⟨goInt _, by simp [Builtin.len_, hu], .int _ _⟩
    · cases hx
      simp only [Option.some.injEq] at h; subst h
      exact ⟨goInt (0 : Nat), by simp [Builtin.len_, hu], .int _ _⟩
    · cases hx
      simp only [Option.some.injEq] at h; subst h
      exact ⟨goInt (0 : Nat), by simp [Builtin.len_, hu], .int _ _⟩
    · cases h
  · simp only [Option.some.injEq] at h; subst h
    exact ⟨goInt _, by simp [Builtin.len_, hu], .int _ _⟩
  · cases h

theorem capV_ok {t ty : TypeId} {d : TypeDesc} {x v : AV} {x' : Value} {μ : Mu} (hd : E.under t = some d) (hx : VR μ x x') (h : capV x d = some v) (w : World) :
    ∃ v', (Builtin.cap_ #[t] ty #[x']).run P w = .ok v' w ∧ VR μ v v' := by
  have hu := runUnder ok hd w
  unfold capV at h
  split at h
  · split at h
    · cases hx with | slice hp _ =>
      simp only [Option.some.injEq] at h; subst h
      exact ⟨goInt _, by simp [Builtin.cap_, hu], .int _ _⟩
    · cases hx
      simp only [Option.some.injEq] at h; subst h
      exact ⟨goInt (0 : Nat), by simp [Builtin.cap_, hu], .int _ _⟩
    · cases h
  · simp only [Option.some.injEq] at h; subst h
    exact ⟨goInt _, by simp [Builtin.cap_, hu], .int _ _⟩
  · cases h

end

theorem max_ok {x y v : AV} {x' y' : Value} {μ : Mu} (hx : VR μ x x') (hy : VR μ y y') (h : max2A x y = some v) (ts : Array TypeId) (ty : TypeId) (P : Program) (w : World) :
    ∃ v', (Builtin.max_ ts ty #[x', y']).run P w = .ok v' w ∧ VR μ v v' := by
  unfold max2A at h
  split at h
  · cases hx; cases hy
    rename_i k a l b
    simp only [Option.some.injEq] at h; subst h
    refine ⟨.int k (if b > a then b else a), by simp [Builtin.max_, Builtin.max2], ?_⟩
    rw [intLt_eq]
    by_cases hh : a < b <;> simp [hh] <;> exact .int _ _
  · cases h

theorem min_ok {x y v : AV} {x' y' : Value} {μ : Mu} (hx : VR μ x x') (hy : VR μ y y') (h : min2A x y = some v) (ts : Array TypeId) (ty : TypeId) (P : Program) (w : World) :
    ∃ v', (Builtin.min_ ts ty #[x', y']).run P w = .ok v' w ∧ VR μ v v' := by
  unfold min2A at h
  split at h
  · cases hx; cases hy
    rename_i k a l b
    simp only [Option.some.injEq] at h; subst h
    refine ⟨.int k (if b < a then b else a), by simp [Builtin.min_, Builtin.min2], ?_⟩
    rw [intLt_eq]
    by_cases hh : b < a <;> simp [hh] <;> exact .int _ _
  · cases h

/-! bytes that are marked as a string's: nothing turns for the relation -/
theorem freeze_heap (w : World) (b n : Nat) : (w.freeze ⟨b, n, none⟩ 1).heap = w.heap.modify b fun
      | .cells c elem (lo, hi) => .cells c elem (if lo == hi then (n, n + 1) else (min lo n, max hi (n + 1)))
      | o => o := by
  unfold World.freeze; rw [if_neg (by decide)]; rfl

theorem freeze_rel {E : Env} {O : Own} {μ : Mu} {h : Heap} {w : World} {b n : Nat} {c : Array Value} {e : TypeId} {fr : Nat × Nat} (r : HRel E O μ h w.heap)
    (hb : w.heap[b]? = some (.cells c e fr)) (hn : n = c.size) : HRel E O μ h (w.freeze ⟨b, n, none⟩ 1).heap := by
  have hlt : b < w.heap.size := (Array.getElem?_eq_some_iff.1 hb).1
  have hm : ∀ x : Nat, x ≠ b → (w.freeze ⟨b, n, none⟩ 1).heap[x]? = w.heap[x]? := by
    intro x hx; rw [freeze_heap, Array.getElem?_modify]; simp [Ne.symm hx]
  have hsz : (w.freeze ⟨b, n, none⟩ 1).heap.size = w.heap.size := by rw [freeze_heap]; simp
  refine ⟨?_, r.inj, r.own, fun x p hx => by rw [hsz]; exact r.size x p hx, fun x hx => r.up x (by rw [hsz] at hx; exact hx), ?_, r.ro, r.nro⟩
  · intro x o hx
    obtain ⟨p, ob, hp, ho, hr⟩ := r.obj x o hx
    by_cases hxb : p.blk = b
    · subst hxb
      rw [hb] at ho; cases ho
      cases hr with
      | cells h1 h2 h3 h4 h5 h6 =>
        rename_i c0 op pre mid post
        refine ⟨p, .cells (pre ++ mid ++ post).toArray e (n, n + 1), hp, ?_, .cells h1 h2 h3 h4 h5 (.inr (by rw [hn]; simp))⟩
        rw [freeze_heap, Array.getElem?_modify, if_pos rfl, hb]
        obtain ⟨lo, hi⟩ := fr
        simp only [Option.map_some, Option.some.injEq, Obj.cells.injEq, true_and]
        rcases h6 with h6 | h6
        · simp only [Prod.mk.injEq] at h6; obtain ⟨rfl, rfl⟩ := h6; simp
        · simp only [Prod.mk.injEq] at h6; obtain ⟨rfl, rfl⟩ := h6
          have : (pre ++ mid ++ post).length = n := by rw [hn]; simp
          rw [this]
          rw [if_neg (by simp)]
          simp
      | ro h1 h2 =>
        rename_i c0 pre mid post
        obtain ⟨lo, hi⟩ := fr
        refine ⟨p, .cells (pre ++ mid ++ post).toArray e (if lo == hi then (n, n + 1) else (min lo n, max hi (n + 1))), hp, ?_, .ro h1 h2⟩
        rw [freeze_heap, Array.getElem?_modify, if_pos rfl, hb]
        simp
    · exact ⟨p, ob, hp, by rw [hm _ hxb]; exact ho, hr⟩
  · intro x m mods seen p pm es mo hx hmm hp hpm
    have hi := r.iter x m mods seen p pm es mo hx hmm hp hpm
    refine ⟨hi.1, fun e1 es' clock since sb stepped h1 h2 => hi.2 e1 es' clock since sb stepped ?_ ?_⟩
    · by_cases hxb : pm.blk = b
      · subst hxb; rw [freeze_heap, Array.getElem?_modify, if_pos rfl, hb] at h1; simp at h1
      · rw [hm _ hxb] at h1; exact h1
    · by_cases hxb : p.blk = b
      · subst hxb; rw [freeze_heap, Array.getElem?_modify, if_pos rfl, hb] at h2; simp at h2
      · rw [hm _ hxb] at h2; exact h2

/-- what an operation that gives a value does to the model's world -/
structure PvR (E : Env) (O : Own) (μ : Mu) (w w' : World) : Prop where
  step : Step O w w'
  rel : ∀ h, HRel E O μ h w.heap → HRel E O μ h w'.heap
  size : w'.heap.size = w.heap.size

theorem PvR.refl (E : Env) (O : Own) (μ : Mu) (w : World) : PvR E O μ w w := ⟨Step.refl O w, fun _ h => h, rfl⟩

theorem markStringish_ok {E : Env} {O : Own} {μ : Mu} {w : World} {b off : Nat} (hO : O b) (P : Program) :
    ∃ w', (markStringish ⟨b, off, none⟩).run P w = .ok () w' ∧ PvR E O μ w w' := by
  unfold markStringish
  simp only [Sem.run_bind, run_shape, Result.andThen_ok, World.shape?]
  cases hb : w.heap[b]? with
  | none => exact ⟨w, by simp, .refl ..⟩
  | some o =>
    cases o
    case cells c e fr =>
      refine ⟨w.freeze ⟨b, c.size, none⟩ 1, by simp, ⟨?_, fun h r => freeze_rel r hb rfl, ?_⟩⟩
      · refine ⟨?_, ?_, ?_, ?_, ?_⟩
        · intro x hx
          have : x ≠ b := fun e => hx (e ▸ hO)
          rw [freeze_heap, Array.getElem?_modify]; simp [Ne.symm this]
        · rw [freeze_heap]; simp
        · unfold World.freeze; rw [if_neg (by decide)]
        · unfold World.freeze; rw [if_neg (by decide)]
        · unfold World.freeze; rw [if_neg (by decide)]
      · rw [freeze_heap]; simp
    all_goals exact ⟨w, by simp, .refl ..⟩

section
variable {E : Env} {P : Program} (ok : EnvOk E P)
include ok

theorem convSlices_ok {src dst e0 e : TypeId} {x v : AV} {x' : Value} {μ : Mu} {O : Own} {w : World} {hp : Heap} (h0 : E.under src = some (.slice e0)) (hd : E.under dst = some (.slice e)) (hx : VR μ x x')
    (hr : HRel E O μ hp w.heap) (h : convSlices src dst x e E hp = some v) : ∃ v' w', (convert src dst x').run P w = .ok v' w' ∧ VR μ v v' ∧ PvR E O μ w w' := by
  unfold convSlices at h
  split at h
  · rename_i b off n c o
    obtain ⟨h1, h2⟩ := guard_some h
    unfold convLive at h2
    split at h2
    case h_1 => cases h2
    case h_3 => cases h2
    rename_i ob hnro hlive
    have hown : ob.owned = true := by
      cases ob <;> first | rfl | exact absurd rfl (hnro _)
    simp only [Option.some.injEq] at h2; subst h2
    simp only [Bool.and_eq_true] at h1
    have hb := byteElem_ok h1.1
    have hsd : (src == dst) = true := by rw [beq_iff_eq]; exact Nat.eq_of_beq_eq_true h1.2
    cases hx with | slice hm hop =>
    rename_i p
    obtain ⟨w', hw', hr2⟩ := markStringish_ok (E := E) (O := O) (μ := μ) (w := w) (b := p.blk) (off := p.sh + off) (hr.own b ob p hlive hown hm) P
    refine ⟨_, w', ?_, .slice hm hop, hr2⟩
    simp only [convert, Sem.run_bind, runUnder ok h0, runUnder ok hd, Result.andThen_ok, hsd, runUnder ok hb, hw', Sem.run_pure]
  · cases h

/-- EVERY OPERATION THAT GIVES A VALUE. -/
theorem pv_ok {O : Own} {o : Oper} {f : PF} (hf : doOp o.op E = .pv f) {μ : Mu} {tm : T AV} {a : Act} {w : World} (r : TmR μ tm a.tmps) {v : AV}
    (h : f E tm = some v) : ∃ v' w', (execOp a.eval o).run P w = .ok (.value v') w' ∧ VR μ v v' ∧ PvR E O μ w w' := by
  obtain ⟨dst, op, type, pos, after, guard⟩ := o
  have keep : ∀ (s : Sem Value), (∃ v', s.run P w = .ok v' w ∧ VR μ v v') → ∃ v' w', (do pure (Next.value (← s)) : Sem Next).run P w = .ok (.value v') w' ∧ VR μ v v' ∧ PvR E O μ w w' := by
    rintro s ⟨v', h1, h2⟩
    exact ⟨v', w, by simp [h1], h2, .refl ..⟩
  cases op <;> simp only [doOp] at hf <;> try (cases hf; done)
  case move x =>
    cases hf
    simp only [pMove, Option.some.injEq] at h; subst h
    exact ⟨a.eval x, w, by simp [execOp], operand_rel r x, .refl ..⟩
  case assign x =>
    cases hf
    simp only [pMove, Option.some.injEq] at h; subst h
    exact ⟨a.eval x, w, by simp [execOp], operand_rel r x, .refl ..⟩
  case pick c x y =>
    cases hf
    simp only [pPick, pick1] at h
    have hc := operand_rel r c
    split at h
    · rename_i t ht
      rw [ht] at hc
      generalize hcv : a.eval c = cv at hc
      cases hc
      simp only [Option.some.injEq] at h; subst h
      refine ⟨if t then a.eval x else a.eval y, w, by simp [execOp, hcv, asBool], ?_, .refl ..⟩
      cases t
      · exact operand_rel r y
      · exact operand_rel r x
    · cases h
  case build t ps => cases hf; exact keep _ (build_ok ok r h w)
  case nilCheck x =>
    cases hf
    simp only [pNilCheck] at h
    have hx := operand_rel r x
    have hv : notNil (operand tm x) = some v := h
    generalize operand tm x = ax at hx hv
    refine ⟨a.eval x, w, ?_, ?_, .refl ..⟩
    · simp only [execOp]
      generalize a.eval x = xv at hx
      cases hx <;> simp [notNil] at hv <;> simp
    · have : ax = v := by cases ax <;> simp [notNil] at hv <;> exact hv
      rw [← this]; exact hx
  case binOp op t x y yt =>
    cases hf
    refine keep _ (binA_ok ok h ?_ (operand_rel r x) (operand_rel r y) w)
    intro hc
    simp only [Bool.or_eq_true] at hc
    rcases hc with hc | hc
    · cases x <;> simp [constO] at hc; exact .inl ⟨_, rfl⟩
    · cases y <;> simp [constO] at hc; exact .inr ⟨_, rfl⟩
  case unOp op t x => cases hf; exact keep _ (unA_ok h (operand_rel r x) P w)
  case convert s d x =>
    have hx := operand_rel r x
    unfold convD at hf
    split at hf
    · cases hf
    · cases hf
    · cases hf
    · rename_i d0 d1 _ _ _ h0 hd
      cases hf
      exact keep _ (convNum_ok ok h0 hd hx h w)
    · cases hf
  case makeInterface t x =>
    cases hf
    simp only [pIface] at h
    cases hd : E.under t with
    | none => rw [hd] at h; cases h
    | some d =>
      rw [hd] at h
      cases hi : isIface d with
      | true => simp only [hi] at h; cases h
      | false =>
        simp only [hi] at h
        have h' : some (AV.iface t (operand tm x)) = some v := h
        simp only [Option.some.injEq] at h'; subst h'
        refine ⟨.iface t (a.eval x), w, ?_, .iface (operand_rel r x), .refl ..⟩
        simp only [execOp, Instr.makeInterface, Sem.run_bind, runUnder ok hd, Result.andThen_ok]
        cases d <;> simp [isIface] at hi <;> simp
  case makeFunc fn x y =>
    cases hf
    simp only [pFunc] at h
    split at h
    · simp only [Option.some.injEq] at h; subst h
      refine ⟨.func (.func _) (x.map a.eval) (y.map a.eval), w, by simp [execOp, Instr.makeFunc], .func ?_ ?_, .refl ..⟩
      · have := operands_rel r x.toList; simpa using this
      · have := operands_rel r y.toList; simpa using this
    · cases h
  case slice t x lo hi mx =>
    cases hf
    have hopt : ∀ z : Option Operand, OptR μ (optOperand tm z) (z.map a.eval) := by
      intro z; cases z with
      | none => exact .none
      | some z => exact .some (operand_rel r z)
    exact keep _ (sliceA_ok ok (operand_rel r x) (hopt lo) (hopt hi) (hopt mx) h w)
  case fieldAddr s x f =>
    cases hf
    simp only [pFieldAddr] at h
    have hx := operand_rel r x
    split at h
    · rename_i b off fd hp hfd
      split at h
      · rename_i n hn
        simp only [Option.some.injEq] at h; subst h
        have hpx : operand tm x = .ptr b off := by
          cases hh : operand tm x <;> rw [hh] at hp <;> simp [ptrOf] at hp
          obtain ⟨rfl, rfl⟩ := hp; rfl
        rw [hpx] at hx
        cases hfs : E.fields s with
        | none => rw [hfs] at hfd; cases hfd
        | some fs =>
          rw [hfs] at hfd
          exact keep _ (fieldAddr_ok ok hx hfs hfd hn w)
      · cases h
    · cases h
  case field t x f =>
    cases hf
    simp only [pField] at h
    have hx := operand_rel r x
    split at h
    · rename_i cs fd hp hfd
      rw [hp] at hx
      cases hfs : E.fields t with
      | none => rw [hfs] at hfd; cases hfd
      | some fs =>
        rw [hfs] at hfd
        exact keep _ (field_ok ok hx hfs hfd h w)
    · cases h
  case indexAddr t x i => cases hf; exact keep _ (indexAddr_ok ok (operand_rel r x) (operand_rel r i) h w)
  case index t x i => cases hf; exact keep _ (index_ok ok (operand_rel r x) (operand_rel r i) h w)
  case extract x i =>
    cases hf
    simp only [pExtract] at h
    have hx := operand_rel r x
    cases hh : operand tm x <;> rw [hh] at h hx <;> simp [tupOf] at h
    rename_i l
    generalize hxv : a.eval x = xv at hx
    cases hx with | tup hl =>
    rename_i l'
    rw [nth_eq] at h
    obtain ⟨y, hy, hr⟩ := hl.get i h
    have hy' : l'[i]? = some y := by simpa using hy
    exact keep _ ⟨y, by simp [hxv, Instr.extract, hy'], hr⟩
  case call c =>
    obtain ⟨callee, args, argTypes⟩ := c
    have hargs : ∀ l, args.toList = l → args.map a.eval = (l.map a.eval).toArray := by
      intro l hl; apply Array.toList_inj.1; simp [hl]
    have htypes : ∀ l, argTypes.toList = l → argTypes = l.toArray := by intro l hl; rw [← hl]
    unfold callD at hf
    simp only at hf
    split at hf
    · rename_i b hb
      unfold builtinD at hf
      split at hf
      · rename_i t ts x hts hl
        unfold lenD at hf
        split at hf
        · cases hf
        · rename_i d _ hd
          cases hf
          obtain ⟨v', h1, h2⟩ := lenV_ok ok (ty := type) hd (operand_rel r x) h w
          refine ⟨v', w, ?_, h2, .refl ..⟩
          have : ∀ ts, Builtin.len_ (t :: ts).toArray type #[a.eval x] = Builtin.len_ #[t] type #[a.eval x] := by intro ts; simp [Builtin.len_]
          simp [execOp, resolve, invoke, builtin, hargs _ hl, htypes _ hts, this, h1]
        · cases hf
      · rename_i t ts x hts hl
        cases hf
        have h : (E.under t).bind (capV (operand tm x)) = some v := h
        cases hd : E.under t with
        | none => rw [hd] at h; cases h
        | some d =>
          rw [hd] at h
          obtain ⟨v', h1, h2⟩ := capV_ok ok (ty := type) hd (operand_rel r x) h w
          refine ⟨v', w, ?_, h2, .refl ..⟩
          have : ∀ ts, Builtin.cap_ (t :: ts).toArray type #[a.eval x] = Builtin.cap_ #[t] type #[a.eval x] := by intro ts; simp [Builtin.cap_]
          simp [execOp, resolve, invoke, builtin, hargs _ hl, htypes _ hts, this, h1]
      · rename_i x y hl
        cases hf
        obtain ⟨v', h1, h2⟩ := max_ok (operand_rel r x) (operand_rel r y) h argTypes type P w
        exact ⟨v', w, by simp [execOp, resolve, invoke, builtin, hargs _ hl, h1], h2, .refl ..⟩
      · rename_i x y hl
        cases hf
        obtain ⟨v', h1, h2⟩ := min_ok (operand_rel r x) (operand_rel r y) h argTypes type P w
        exact ⟨v', w, by simp [execOp, resolve, invoke, builtin, hargs _ hl, h1], h2, .refl ..⟩
      all_goals cases hf
    · cases hf
    · cases hf

end

end Go.Ab
end
