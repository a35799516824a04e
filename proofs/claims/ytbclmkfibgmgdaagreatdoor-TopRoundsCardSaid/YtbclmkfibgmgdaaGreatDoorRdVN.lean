/- Operations that make a block. Stores into cells. Maps: what is written into them. Conditions: none. -/
import Derived.Test.YtbclmkfibgmgdaaGreatDoorRdVL
section
namespace Go.Ab

theorem zrep (zs : List Value) : ∀ n, (List.range (n * zs.length)).map (fun i => zs[i % zs.length]!) = (List.replicate n zs).flatten
  | 0 => by simp
  | n + 1 => by
    rw [Nat.succ_mul, List.range_add, List.map_append, zrep zs n, List.replicate_succ', List.flatten_append]
    congr 1
    simp only [List.map_map, List.flatten_cons, List.flatten_nil, List.append_nil]
    apply List.ext_getElem
    · simp
    · intro i h1 h2
      simp only [List.length_map, List.length_range] at h1
      simp only [List.getElem_map, List.getElem_range, Function.comp]
      rw [Nat.mul_add_mod_self_right, Nat.mod_eq_of_lt h1]
      simp [h1]

theorem rep_rel {μ : Mu} {z : List AV} {zs : List Value} (h : VRL μ z zs) : ∀ n, VRL μ (rep z n) (List.replicate n zs).flatten
  | 0 => .nil
  | n + 1 => by
    simp only [rep, List.replicate_succ, List.flatten_cons]
    exact h.append (rep_rel h n)

theorem zeros_toList (zs : Array Value) (n : Nat) : ((Array.range (n * zs.size)).map (zs[· % zs.size]!)).toList = (List.replicate n zs.toList).flatten := by
  rw [← zrep]
  simp only [Array.toList_map, Array.toList_range, Array.length_toList]
  apply List.map_congr_left
  intro i _
  simp [getElem!_def]

theorem elem_ok {E : Env} {t e : TypeId} (he : E.elem t = some e) : E.under t = some (.slice e) := by
  unfold Env.elem at he
  cases hd : E.under t with
  | none => rw [hd] at he; cases he
  | some d => rw [hd] at he; cases d <;> simp [sliceOf] at he; subst he; rfl

section
variable {E : Env} {O : Own} {μ : Mu}

theorem step_push {w : World} {h : Heap} {ob : Obj} {d : Nat} (r : HRel E O μ h w.heap) : Step O w { w with heap := w.heap.push ob, drawn := d } := by
  refine ⟨fun c hc => ?_, by simp, rfl, rfl, rfl⟩
  have : c < w.heap.size := by
    rcases Nat.lt_or_ge c w.heap.size with h1 | h1
    · exact h1
    · exact absurd (r.up c h1) hc
  rw [Array.getElem?_push_lt this, Array.getElem?_eq_getElem this]

/-- a block of cells whose room is known, made -/
theorem newCells_rel {w : World} {h : Heap} {c : List AV} {c' : Array Value} {e : TypeId} {id : Nat} (r : HRel E O μ h w.heap) (hn : μ id = none) (hc : VRL μ c c'.toList) :
    HRel E O (μ.add id ⟨w.heap.size, 0, 0, 0, 0, false⟩) (h.put id (.cells c e false)) (w.heap.push (.cells c' e)) := by
  refine r.add hn rfl ?_ (fun m mods seen hh => by cases hh)
  have := OR'.cells (E := E) (μ := μ.add id ⟨w.heap.size, 0, 0, 0, 0, false⟩) (p := ⟨w.heap.size, 0, 0, 0, 0, false⟩) (c := c) (e := e) (op := false) (pre := []) (mid := c'.toList) (post := []) (fr := (0, 0))
    rfl (hc.mono (Mu.le_add hn)) (fun _ => ⟨rfl, rfl⟩) rfl (fun hh => by cases hh) (.inl rfl)
  simpa using this

end

/-- what an operation that makes a block does -/
def AlR (E : Env) (O : Own) (μ : Mu) (w w' : World) (ob : AObj) (g : Nat → AV) (id : Nat) (v' : Value) (h : Heap) : Prop :=
  ∃ p, Step O w w' ∧ HRel E O (μ.add id p) (h.put id ob) w'.heap ∧ VR (μ.add id p) (g id) v'

section
variable {E : Env} {P : Program} (ok : EnvOk E P)
include ok

theorem makeSlice_ok {O : Own} {μ : Mu} {w : World} {h : Heap} {t : TypeId} {l c : AV} {l' c' : Value} {ob : AObj} {g : Nat → AV} {id : Nat} (r : HRel E O μ h w.heap) (hn : μ id = none)
    (hl : VR μ l l') (hc : VR μ c c') (hm : makeSliceA E t l c = some (ob, g)) : ∃ v' w', (Instr.makeSlice t l' c').run P w = .ok v' w' ∧ AlR E O μ w w' ob g id v' h := by
  unfold makeSliceA at hm
  cases he : E.elem t with
  | none => rw [he] at hm; cases hm
  | some e =>
  cases hln : asN l with
  | none => rw [he, hln] at hm; cases hm
  | some ln =>
  cases hcn : asN c with
  | none => rw [he, hln, hcn] at hm; cases hm
  | some cn =>
  simp only [he, hln, hcn] at hm
  cases hti : E.tt.get none e with
  | none => rw [hti] at hm; cases hm
  | some ti =>
  cases hz : E.zero e with
  | none => rw [hti, hz] at hm; cases hm
  | some z =>
    simp only [hti, hz] at hm
    obtain ⟨h1, h2⟩ := guard_some hm
    simp only [Option.some.injEq, Prod.mk.injEq] at h2
    obtain ⟨rfl, rfl⟩ := h2
    simp only [Bool.and_eq_true, bears, Nat.ble_eq] at h1
    obtain ⟨⟨g1, g2, g3⟩, g4⟩ := h1
    obtain ⟨kl, rfl⟩ := asN_ok hln hl
    obtain ⟨kc, rfl⟩ := asN_ok hcn hc
    obtain ⟨z', hz1, hz2⟩ := zero_ok ok hz μ w
    obtain ⟨s1, s2, s3⟩ := sized_rel g4 hz2
    have hu := elem_ok he
    have hi := info_ok ok hti w
    have hsz : (sizeOf e).run P w = .ok ti.size w := size_ok ok (by unfold Env.size; rw [hti]; rfl) w
    have g2' : cn * ti.bytes ≤ 140737488355328 := g2
    have w1 : IntKind.i64.wrap (ln : Int) = ln := wrap_lim .i64 ln (by simp [lim]; omega)
    have w2 : IntKind.i64.wrap (cn : Int) = cn := wrap_lim .i64 cn (by simp [lim]; omega)
    have hmul : (ti.bytes : Int) * (cn : Int) ≤ 140737488355328 := by
      have : (ti.bytes : Int) * (cn : Int) = ((cn * ti.bytes : Nat) : Int) := by rw [Int.natCast_mul, Int.mul_comm]
      rw [this]; omega
    have hcond : ((((cn : Int) < 0 || (ti.bytes : Int) * (cn : Int) > 2 ^ 48) = true ∨ (ln : Int) < 0) ∨ (ln : Int) > (cn : Int)) ↔ False := by
      constructor
      · rintro ((hh | hh) | hh)
        · simp at hh; omega
        · omega
        · omega
      · intro hh; cases hh
    have hrun : (Instr.makeSlice t (.int kl (ln : Int)) (.int kc (cn : Int))).run P w =
        .ok (.slice (some ⟨w.heap.size, 0, none⟩) ln cn) { w with heap := w.heap.push (.cells ((List.replicate cn z'.cells.toList).flatten).toArray e) } := by
      simp only [Instr.makeSlice, Sem.run_bind, runUnder ok hu, Result.andThen_ok, asInt, asIntOf, Sem.run_pure, hi, w1, w2]
      rw [if_neg (by simpa using hcond.1)]
      simp only [Sem.run_bind, run_askRoom, Result.andThen_ok, hsz, Int.toNat_natCast]
      by_cases hz : cn * ti.size = 0
      · have hfl : (List.replicate cn z'.cells.toList).flatten = [] := by
          rcases Nat.mul_eq_zero.1 hz with h0 | h0
          · subst h0; rfl
          · have : z'.cells.toList = [] := List.length_eq_zero_iff.1 (by rw [Array.length_toList]; omega)
            rw [this]; simp
        have hr0 : Array.range 0 = #[] := rfl
        rw [if_pos hz, hfl, hz, hr0]
        simp [newRow]
      · rw [if_neg hz]
        simp only [Sem.run_bind, hz1, Result.andThen_ok, Sem.run_pure]
        rw [← s3]
        have hcells : (Array.range (cn * z'.cells.size)).map (z'.cells[· % z'.cells.size]!) = ((List.replicate cn z'.cells.toList).flatten).toArray := by
          apply Array.toList_inj.1
          rw [zeros_toList]
        rw [hcells]
        simp [newRow]
    refine ⟨_, _, hrun, ⟨w.heap.size, 0, 0, 0, 0, false⟩, step_push (d := w.drawn) r, newCells_rel r hn (by simpa using rep_rel s2 cn), ?_⟩
    have := VR.slice (μ := μ.add id ⟨w.heap.size, 0, 0, 0, 0, false⟩) (b := id) (off := 0) (n := ln) (c := cn) (op := 0) Mu.add_self (fun h => absurd rfl h)
    simpa using this

theorem buildSlice_ok {O : Own} {μ : Mu} {w : World} {h : Heap} {t : TypeId} {n : Nat} {parts : Array (Nat × Operand)} {tm : T AV} {a : Act} {ob : AObj} {g : Nat → AV} {id : Nat}
    (r : HRel E O μ h w.heap) (hn : μ id = none) (rt : TmR μ tm a.tmps) (hm : aBuildSlice t n parts E tm = some (ob, g)) :
    ∃ v' w', (Instr.buildSlice t n (parts.map fun (i, x) => (i, a.eval x))).run P w = .ok v' w' ∧ AlR E O μ w w' ob g id v' h := by
  unfold aBuildSlice at hm
  cases he : E.elem t with
  | none => simp only [he] at hm; cases hm
  | some e =>
  cases hs : E.size e with
  | none => simp only [he, hs] at hm; cases hm
  | some s =>
  cases hz : E.zero e with
  | none => simp only [he, hs, hz] at hm; cases hm
  | some z =>
    simp only [he, hs, hz] at hm
    obtain ⟨h1, h2⟩ := guard_some hm
    simp only [Bool.and_eq_true, Nat.ble_eq] at h1
    obtain ⟨g4, g5⟩ := h1
    have g5' : n * s ≤ 16777216 := g5
    obtain ⟨z', hz1, hz2⟩ := zero_ok ok hz μ w
    obtain ⟨s1, s2, s3⟩ := sized_rel g4 hz2
    have hu := elem_ok he
    cases hf : fillE s tm parts.toList (rep z.cells n) with
    | none => rw [hf] at h2; cases h2
    | some cs =>
      rw [hf] at h2
      simp only [Option.map_some, Option.some.injEq, Prod.mk.injEq] at h2
      obtain ⟨rfl, rfl⟩ := h2
      have hpl : (parts.map fun (i, x) => (i, a.eval x)).toList = parts.toList.map fun (i, x) => (i, a.eval x) := by simp
      obtain ⟨res', e1, e2⟩ := fillE_ok rt s parts.toList (rep z.cells n) cs ((List.replicate n z'.cells.toList).flatten).toArray hf (by simpa using rep_rel s2 n)
      have hrun : (Instr.buildSlice t n (parts.map fun (i, x) => (i, a.eval x))).run P w = .ok (.slice (some ⟨w.heap.size, 0, none⟩) n n) { w with heap := w.heap.push (.cells res' e) } := by
        simp only [Instr.buildSlice, Sem.run_bind, runUnder ok hu, Result.andThen_ok, size_ok ok hs]
        rw [if_neg (by omega)]
        by_cases hz0 : n * s = 0
        · have hfl : (List.replicate n z'.cells.toList).flatten = [] := by
            rcases Nat.mul_eq_zero.1 hz0 with h0 | h0
            · subst h0; rfl
            · have : z'.cells.toList = [] := List.length_eq_zero_iff.1 (by rw [Array.length_toList]; omega)
              rw [this]; simp
          have hr0 : Array.range 0 = #[] := rfl
          rw [hfl] at e1
          rw [if_pos hz0, hz0, hr0]
          simp only [Sem.run_bind, Sem.run_pure, Result.andThen_ok, Array.map_empty, hpl]
          have e1' : Instr.fill (fun i => some (i * s, s)) #[] (parts.toList.map fun (i, x) => (i, a.eval x)) = some res' := e1
          rw [e1']
          simp [newRow]
        · rw [if_neg hz0]
          simp only [Sem.run_bind, hz1, Result.andThen_ok, Sem.run_pure]
          have hcells : (Array.range (n * s)).map (z'.cells[· % z'.cells.size]!) = ((List.replicate n z'.cells.toList).flatten).toArray := by
            apply Array.toList_inj.1
            rw [← s3, zeros_toList]
          rw [hcells, hpl, e1]
          simp [newRow]
      refine ⟨_, _, hrun, ⟨w.heap.size, 0, 0, 0, 0, false⟩, step_push (d := w.drawn) r, newCells_rel r hn e2, ?_⟩
      have := VR.slice (μ := μ.add id ⟨w.heap.size, 0, 0, 0, 0, false⟩) (b := id) (off := 0) (n := n) (c := n) (op := 0) Mu.add_self (fun h => absurd rfl h)
      simpa [sliceTo] using this

omit ok in
theorem toBytes_rel (μ : Mu) : ∀ (l : List UInt8), VRL μ (toBytes (l.map (·.toNat))) (l.map fun b => Value.int .u8 (b.toNat : Int))
  | [] => .nil
  | _ :: l => .cons (.int _ _) (toBytes_rel μ l)

theorem bytes_ok {O : Own} {μ : Mu} {w : World} {h : Heap} {src dst e : TypeId} {x : AV} {x' : Value} {ob : AObj} {g : Nat → AV} {id : Nat} (r : HRel E O μ h w.heap) (hn : μ id = none)
    (h0 : E.under src = some .string) (hd : E.under dst = some (.slice e)) (hx : VR μ x x') (hm : aBytes e x E = some (ob, g)) :
    ∃ v' w', (convert src dst x').run P w = .ok v' w' ∧ AlR E O μ w w' ob g id v' h := by
  unfold aBytes at hm
  split at hm
  · obtain ⟨h1, h2⟩ := guard_some hm
    simp only [Bool.and_eq_true] at h1
    obtain ⟨hb, hsz⟩ := h1
    simp only [Option.some.injEq, Prod.mk.injEq] at h2
    obtain ⟨rfl, rfl⟩ := h2
    cases hx with | str s =>
    have hbe := runUnder ok (byteElem_ok hb)
    have hsz1 : E.size e = some 1 := by
      split at hsz
      · assumption
      · cases hsz
    have hq : ∃ cap d, s.size ≤ cap ∧ (choose (.appendCap s.size 0 e)).run P w = .ok cap { w with drawn := d } := by
      refine ⟨(Question.appendCap s.size 0 e).cut (w.tape w.drawn (.appendCap s.size 0 e)), w.drawn + 1, Nat.le_add_right _ _, ?_⟩
      rw [run_choose]; rfl
    obtain ⟨cap, d, hcap, hch⟩ := hq
    let full : Array Value := (s.data.map fun b => Value.int .u8 (b.toNat : Int)) ++ Array.replicate (cap - s.size) (.int .u8 0)
    let w1 : World := { w with heap := w.heap.push (.cells full e), drawn := d }
    let p : Pl := ⟨w.heap.size, 0, cap - s.size, s.size, 1, true⟩
    have hfull : full.toList = [] ++ (s.data.toList.map fun b => Value.int .u8 (b.toNat : Int)) ++ List.replicate (cap - s.size) (.int .u8 0) := by simp [full]
    have hlen : (bytesL s).length = s.size := by rw [← len_eq, len_bytes]
    have hr1 : HRel E O (μ.add id p) (h.put id (.cells (toBytes (bytesL s)) e true)) w1.heap := by
      refine r.add hn rfl ?_ (fun m mods seen hh => by cases hh)
      have hr0 := OR'.cells (E := E) (μ := μ.add id p) (p := p) (c := toBytes (bytesL s)) (e := e) (op := true) (pre := []) (mid := s.data.toList.map fun b => Value.int .u8 (b.toNat : Int))
        (post := List.replicate (cap - s.size) (.int .u8 0)) (fr := (0, 0)) rfl (toBytes_rel _ _) (fun hh => by cases hh) rfl
        (fun _ => ⟨by simp [toBytes, p, hlen], by simp [p], hsz1⟩) (.inl rfl)
      have : (([] : List Value) ++ (s.data.toList.map fun (b : UInt8) => Value.int .u8 (b.toNat : Int)) ++ List.replicate (cap - s.size) (Value.int .u8 0)).toArray = full := by
        rw [← hfull]
      rw [this] at hr0
      exact hr0
    have hO : O w.heap.size := r.up _ (Nat.le_refl _)
    obtain ⟨w2, hw2, hpv⟩ := markStringish_ok (E := E) (O := O) (μ := μ.add id p) (w := w1) (b := w.heap.size) (off := 0) hO P
    refine ⟨.slice (some ⟨w.heap.size, 0, none⟩) s.size cap, w2, ?_, p, (step_push (d := d) r).trans hpv.step, hpv.rel _ hr1, ?_⟩
    · simp only [convert, Sem.run_bind, runUnder ok h0, runUnder ok hd, Result.andThen_ok, hbe, Conv.stringToBytes, hch, newRow, run_newObj, Sem.run_pure]
      have hw2' : (markStringish ⟨w.heap.size, 0, none⟩).run P { w with heap := w.heap.push (.cells ((s.data.map fun b => Value.int .u8 (b.toNat : Int)) ++ Array.replicate (cap - s.size) (.int .u8 0)) e), drawn := d } = .ok () w2 := hw2
      rw [hw2']
      rfl
    · have := VR.slice (μ := μ.add id p) (b := id) (off := 0) (n := s.size) (c := s.size) (op := 2) Mu.add_self (fun _ => ⟨rfl, rfl, by simp [p]⟩)
      rw [sliceTo, len_bytes]
      have hc : s.size + p.ext = cap := by simp only [p]; omega
      simpa [hc, p] using this
  · cases hm

/-- EVERY OPERATION THAT MAKES A BLOCK. -/
theorem al_ok {O : Own} {o : Oper} {f : AF} (hf : doOp o.op E = .al f) {μ : Mu} {tm : T AV} {a : Act} {w : World} {h : Heap} (rt : TmR μ tm a.tmps) (r : HRel E O μ h w.heap) {id : Nat} (hn : μ id = none)
    {ob : AObj} {g : Nat → AV} (hv : f E tm = some (ob, g)) : ∃ v' w', (execOp a.eval o).run P w = .ok (.value v') w' ∧ AlR E O μ w w' ob g id v' h := by
  obtain ⟨dst, op, type, pos, after, guard⟩ := o
  have keep : ∀ (s : Sem Value), (∃ v' w', s.run P w = .ok v' w' ∧ AlR E O μ w w' ob g id v' h) → ∃ v' w', (do pure (Next.value (← s)) : Sem Next).run P w = .ok (.value v') w' ∧ AlR E O μ w w' ob g id v' h := by
    rintro s ⟨v', w', h1, h2⟩
    exact ⟨v', w', by simp [h1], h2⟩
  have hptr : ∀ {p : Pl}, p.blk = w.heap.size → p.sh = 0 → VR (μ.add id p) (ptrTo id) (.pointer (some ⟨w.heap.size, 0, none⟩)) := by
    intro p h1 h2
    have := VR.ptr (μ := μ.add id p) (b := id) (off := 0) Mu.add_self
    rw [h1, h2] at this; exact this
  cases op <;> simp only [doOp] at hf <;> try (cases hf; done)
  case alloc e =>
    cases hf
    simp only [aAlloc] at hv
    cases hz : E.zero e with
    | none => rw [hz] at hv; cases hv
    | some z =>
      rw [hz] at hv
      simp only [Option.map_some, Option.some.injEq, Prod.mk.injEq] at hv
      obtain ⟨rfl, rfl⟩ := hv
      obtain ⟨z', hz1, hz2⟩ := zero_ok ok hz μ w
      refine keep _ ⟨.pointer (some ⟨w.heap.size, 0, none⟩), { w with heap := w.heap.push (.cells z'.cells e) }, by simp [Instr.alloc, hz1, newVar, newRow], ⟨w.heap.size, 0, 0, 0, 0, false⟩, step_push (d := w.drawn) r, newCells_rel r hn (cells_rel hz2 (zero_nj hz)), hptr rfl rfl⟩
  case box e x =>
    cases hf
    simp only [aBox] at hv
    have hx := operand_rel rt x
    have hj : operand tm x ≠ .junk := by intro hh; rw [hh] at hv; cases hv
    have hv' : (ob, g) = (.cells (operand tm x).cells e false, ptrTo) := by
      cases hh : operand tm x <;> rw [hh] at hv <;> simp [boxed] at hv <;> first | exact absurd hh hj | (obtain ⟨rfl, rfl⟩ := hv; rfl)
    simp only [Prod.mk.injEq] at hv'
    obtain ⟨rfl, rfl⟩ := hv'
    refine keep _ ⟨.pointer (some ⟨w.heap.size, 0, none⟩), { w with heap := w.heap.push (.cells (a.eval x).cells e) }, by simp [Instr.box, newVar, newRow], ⟨w.heap.size, 0, 0, 0, 0, false⟩, step_push (d := w.drawn) r, newCells_rel r hn (cells_rel hx hj), hptr rfl rfl⟩
  case buildSlice t n ps =>
    cases hf
    exact keep _ (buildSlice_ok ok r hn rt hv)
  case convert s d x =>
    unfold convD at hf
    split at hf
    · cases hf
    · cases hf
    · rename_i e h0 hd
      cases hf
      exact keep _ (bytes_ok ok r hn h0 hd (operand_rel rt x) hv)
    · cases hf
    · cases hf
  case makeMap t rs =>
    cases hf
    simp only [aMakeMap] at hv
    have fin : ∀ (s : Sem Value), ob = .map [] 0 → g = .map → s.run P w = .ok (.map (some w.heap.size)) { w with heap := w.heap.push (.map #[] 0) } →
        ∃ v' w', s.run P w = .ok v' w' ∧ AlR E O μ w w' ob g id v' h := by
      rintro s rfl rfl hs
      refine ⟨_, _, hs, ⟨w.heap.size, 0, 0, 0, 0, false⟩, step_push (d := w.drawn) r, r.add hn rfl (.map (mapR_nil _)) (fun m mods seen hh => by cases hh), .map Mu.add_self⟩
    split at hv
    · simp only [Option.some.injEq, Prod.mk.injEq] at hv
      obtain ⟨rfl, rfl⟩ := hv
      exact keep _ (fin _ rfl rfl (by simp [Instr.makeMap]))
    · rename_i kt et x hd
      cases hi : asI (operand tm x) with
      | none => rw [hi] at hv; cases hv
      | some i =>
        rw [hi] at hv
        simp only [Option.map_some, Option.some.injEq, Prod.mk.injEq] at hv
        obtain ⟨rfl, rfl⟩ := hv
        have hx := operand_rel rt x
        have : ∃ k, a.eval x = .int k i := by
          cases hh : operand tm x <;> rw [hh] at hi hx <;> simp [asI] at hi
          subst hi
          generalize a.eval x = xv at hx
          cases hx; exact ⟨_, rfl⟩
        obtain ⟨k, hk⟩ := this
        exact keep _ (fin _ rfl rfl (by simp [Instr.makeMap, runUnder ok hd, hk, asInt, asIntOf]))
    · cases hv
  case makeSlice t l c =>
    cases hf
    exact keep _ (makeSlice_ok ok r hn (operand_rel rt l) (operand_rel rt c) hv)
  case call c =>
    unfold callD at hf
    split at hf
    · unfold builtinD at hf
      split at hf <;> try (cases hf; done)
      unfold lenD at hf
      split at hf <;> cases hf
    · cases hf
    · cases hf

end

end Go.Ab
end
section
namespace Go.Ab

theorem scalar_one {μ : Mu} {v : AV} {v' : Value} (hs : scalar v = true) (h : VR μ v v') : v'.oneCell' = true := by
  cases h <;> simp [scalar] at hs <;> rfl

theorem scalars_all : ∀ {l : List AV}, scalars l = true → ∀ v ∈ l, scalar v = true
  | [], _, v, h => by cases h
  | x :: l, hs, v, h => by
    simp only [scalars] at hs
    cases hx : scalar x with
    | false => rw [hx] at hs; cases hs
    | true =>
      rw [hx] at hs
      rcases List.mem_cons.1 h with rfl | h'
      · exact hx
      · exact scalars_all hs v h'

/-- the world with another row of cells in a block -/
def withCells (w : World) (b : Nat) (c : List Value) (e : TypeId) (fr : Nat × Nat) : World := { w with heap := w.heap.setIfInBounds b (.cells c.toArray e fr) }

theorem store_one {P : Program} {w : World} {b : Nat} {A B : List Value} {x v : Value} {e : TypeId} {fr : Nat × Nat} (hb : b < w.heap.size) (hf : FrOk fr (A ++ x :: B).length) (hv : v.oneCell' = true) :
    (store ⟨b, A.length, none⟩ v).run P (withCells w b (A ++ x :: B) e fr) = .ok () (withCells w b (A ++ v :: B) e fr) := by
  have hat : (withCells w b (A ++ x :: B) e fr).heap[b]? = some (.cells (A ++ x :: B).toArray e fr) := by simp [withCells, hb]
  have hc : (withCells w b (A ++ x :: B) e fr).cell? ⟨b, A.length, none⟩ = some x := by
    unfold World.cell?
    rw [hat]
    simp
  have hfz : (withCells w b (A ++ x :: B) e fr).frozen? ⟨b, A.length, none⟩ = false := by
    unfold World.frozen?
    rw [hat]
    obtain ⟨lo, hi⟩ := fr
    rcases hf with hf | hf <;> simp only [Prod.mk.injEq] at hf <;> obtain ⟨rfl, rfl⟩ := hf
    · simp
    · simp only [Bool.and_eq_false_iff, decide_eq_false_iff_not]; left; simp
  rw [run_store P _ _ v _ hv, hc]
  simp only [hfz, Bool.false_eq_true, if_false]
  congr 1
  unfold World.setCell withCells
  congr 1
  apply Array.ext_getElem?
  intro i
  rw [Array.getElem?_modify]
  by_cases hi : b = i
  · subst hi
    simp [hb]
  · rw [if_neg hi, Array.getElem?_setIfInBounds_ne hi, Array.getElem?_setIfInBounds_ne hi]

theorem storeCells_list {P : Program} {w : World} {b : Nat} {e : TypeId} {fr : Nat × Nat} (A B : List Value) (hb : b < w.heap.size) : ∀ (vs old dn : List Value) (i : Nat), dn.length = i → old.length = vs.length →
    FrOk fr (A ++ dn ++ vs ++ B).length → (∀ v ∈ vs, v.oneCell' = true) →
    (storeCells ⟨b, A.length, none⟩ vs i).run P (withCells w b (A ++ dn ++ old ++ B) e fr) = .ok () (withCells w b (A ++ dn ++ vs ++ B) e fr)
  | [], old, dn, i, _, h, _, _ => by
    have : old = [] := List.length_eq_zero_iff.1 (by simpa using h)
    subst this; rfl
  | v :: vs, [], dn, i, _, h, _, _ => by simp at h
  | v :: vs, x :: old, dn, i, hd, h, hf, hv => by
    simp only [storeCells, Sem.run_bind]
    have e1 : A ++ dn ++ x :: old ++ B = (A ++ dn) ++ x :: (old ++ B) := by simp
    have e2 : (⟨b, A.length, none⟩ : Addr).add i = ⟨b, (A ++ dn).length, none⟩ := by rw [addr_add]; simp [hd]
    rw [e1, e2, store_one hb (by simp at hf h ⊢; rw [h]; exact hf) (hv v (by simp)), Result.andThen_ok]
    have e3 : (A ++ dn) ++ v :: (old ++ B) = A ++ (dn ++ [v]) ++ old ++ B := by simp
    have e4 : A ++ dn ++ v :: vs ++ B = A ++ (dn ++ [v]) ++ vs ++ B := by simp
    rw [e3, e4]
    exact storeCells_list A B hb vs old (dn ++ [v]) (i + 1) (by simp [hd]) (by simpa using h) (by rw [← e4]; exact hf) (fun u hu => hv u (by simp [hu]))

/-- cells written over what 'splice' lays them -/
theorem storeCells_ok {E : Env} {O : Own} {μ : Mu} {h : Heap} {w : World} {P : Program} (r : HRel E O μ h w.heap) {b off : Nat} {p : Pl} {c c2 new : List AV} {e : TypeId} {op : Bool} {new' : List Value}
    (hb : h.cells b = some (c, e, op)) (hm : μ b = some p) (hn : VRL μ new new') (hs : scalars new = true) (hsp : splice new off c = some c2) :
    ∃ w', (storeCells ⟨p.blk, p.sh + off, none⟩ new').run P w = .ok () w' ∧ Step O w w' ∧ HRel E O μ (h.put b (.cells c2 e op)) w'.heap := by
  obtain ⟨pre, mid, post, fr, hca, q1, q2, q3⟩ := r.cells hb hm
  obtain ⟨a, m, d, rfl, rfl, ha, hml⟩ := splice_parts (α := AV) hsp
  obtain ⟨x, z, rfl, hx, hz⟩ := VRL.split hca.rel
  obtain ⟨x1, x2, rfl, hx1, hx2⟩ := VRL.split hx
  have l1 := hx1.length
  have l2 := hx2.length
  have l3 := hn.length
  have hown : O p.blk ∧ p.blk < w.heap.size := ⟨r.own b _ p (cells_get hb) rfl hm, r.size b p hm⟩
  have hw : w = withCells w p.blk (pre ++ (x1 ++ x2 ++ z) ++ post) e fr := by
    unfold withCells
    have : w.heap.setIfInBounds p.blk (.cells (pre ++ (x1 ++ x2 ++ z) ++ post).toArray e fr) = w.heap := by
      apply Array.ext_getElem?
      intro i
      by_cases hi : p.blk = i
      · subst hi; rw [Array.getElem?_setIfInBounds_self_of_lt hown.2]; exact hca.at_.symm
      · rw [Array.getElem?_setIfInBounds_ne hi]
    rw [this]
  have hl : (pre ++ (x1 ++ new' ++ z) ++ post).length = (pre ++ (x1 ++ x2 ++ z) ++ post).length := by simp; omega
  have hfr : FrOk fr (pre ++ (x1 ++ new' ++ z) ++ post).length := by rw [hl]; exact hca.ok
  have hrun := storeCells_list (P := P) (w := w) (b := p.blk) (e := e) (fr := fr) (pre ++ x1) (z ++ post) hown.2 new' x2 [] 0 rfl (by omega)
    (by have : pre ++ x1 ++ [] ++ new' ++ (z ++ post) = pre ++ (x1 ++ new' ++ z) ++ post := by simp
        rw [this]; exact hfr)
    (by
      intro v hv
      obtain ⟨i, hi⟩ := List.mem_iff_getElem?.1 hv
      have hlt := (List.getElem?_eq_some_iff.1 hi).1
      have hlt' : i < new.length := by omega
      obtain ⟨y, hy, hr⟩ := hn.get i (List.getElem?_eq_getElem hlt')
      rw [hi] at hy; cases hy
      exact scalar_one (scalars_all hs _ (List.getElem_mem hlt')) hr)
  have e1 : pre ++ x1 ++ [] ++ x2 ++ (z ++ post) = pre ++ (x1 ++ x2 ++ z) ++ post := by simp
  have e2 : pre ++ x1 ++ [] ++ new' ++ (z ++ post) = pre ++ (x1 ++ new' ++ z) ++ post := by simp
  have e3 : (pre ++ x1).length = p.sh + off := by have := hca.sh; simp; omega
  rw [e1, e2, e3, ← hw] at hrun
  refine ⟨_, hrun, ?_, ?_⟩
  · refine ⟨fun y hy => ?_, by simp [withCells], rfl, rfl, rfl⟩
    have : p.blk ≠ y := fun hh => hy (hh ▸ hown.1)
    simp only [withCells]
    rw [Array.getElem?_setIfInBounds_ne this]
  · refine r.put (cells_get hb) hm rfl rfl ?_
    exact .cells hca.sh ((hx1.append hn).append hz) q1 q2 (fun hh => by
      obtain ⟨t1, t2, t3⟩ := q3 hh
      exact ⟨by rw [← t1]; simp; omega, t2, t3⟩) hfr

end Go.Ab
end
section
namespace Go.Ab

theorem bytesL_inj {a b : ByteArray} (h : bytesL a = bytesL b) : a = b := by
  have h1 : natsEq (bytesL a) (bytesL b) = true := (natsEq_iff _ _).2 h
  rw [natsEq_bytes, beq_iff_eq, ByteArray.toList_eq, ByteArray.toList_eq] at h1
  cases a with | mk x => cases b with | mk y => simp only [ByteArray.mk.injEq]; exact Array.toList_inj.1 h1

theorem scal_vals {μ : Mu} : ∀ {a : List AV} {x y : List Value} {r : Bool}, eqScalars a a = some r → VRL μ a x → VRL μ a y → x = y
  | [], _, _, _, _, .nil, .nil => rfl
  | .int k m :: a, _, _, r, h, .cons h1 h2, .cons h3 h4 => by
    simp only [eqScalars, if_true, (intEq_iff m m).2 rfl, cond_true] at h
    cases h1; cases h3; rw [scal_vals h h2 h4]
  | .str m :: a, _, _, r, h, .cons h1 h2, .cons h3 h4 => by
    simp only [eqScalars, (natsEq_iff m m).2 rfl, cond_true] at h
    rw [scal_vals h h2 h4]
    generalize hm : m = m2 at h3
    generalize hm' : AV.str m = q at h1
    cases h1 <;> try (cases hm'; done)
    rename_i s
    simp only [AV.str.injEq] at hm'
    subst hm
    generalize hm2 : AV.str m = q2 at h3
    cases h3 <;> try (cases hm2; done)
    rename_i s2
    simp only [AV.str.injEq] at hm2
    rw [bytesL_inj (hm'.symm.trans hm2)]
  | .bool m :: a, _, _, r, h, .cons h1 h2, .cons h3 h4 => by
    simp only [eqScalars, (boolEq_iff m m).2 rfl, cond_true] at h
    cases h1; cases h3; rw [scal_vals h h2 h4]

theorem str_vals {μ : Mu} {m : List Nat} {x y : Value} (h1 : VR μ (.str m) x) (h2 : VR μ (.str m) y) : x = y := by
  have := scal_vals (a := [.str m]) (r := true) (by simp [eqScalars, (natsEq_iff m m).2 rfl]) (.cons h1 .nil) (.cons h2 .nil)
  simpa using this

/-- a key's values are one -/
theorem key_vals {μ : Mu} {k : AV} {x y : Value} {r : Bool} (hk : keyEq k k = some r) (h1 : VR μ k x) (h2 : VR μ k y) : x = y := by
  cases k <;> simp only [keyEq] at hk <;> try (cases hk; done)
  · cases h1; cases h2; rfl
  · cases h1; cases h2; rfl
  · exact str_vals h1 h2
  · cases h1 with | agg h1 => cases h2 with | agg h2 =>
    rw [Array.toList_inj.1 (scal_vals hk h1 h2)]

theorem scal_inj {μ : Mu} : ∀ {a b : List AV} {x : List Value} {r : Bool}, eqScalars a b = some r → VRL μ a x → VRL μ b x → r = true
  | [], [], _, r, h, _, _ => by simp only [eqScalars, Option.some.injEq] at h; exact h.symm
  | .int k m :: a, .int l n :: b, _, r, h, .cons h1 h2, .cons h3 h4 => by
    cases h1; cases h3
    simp only [eqScalars, if_true, (intEq_iff m m).2 rfl, cond_true] at h
    exact scal_inj h h2 h4
  | .str m :: a, .str n :: b, _, r, h, .cons h1 h2, .cons h3 h4 => by
    have hmn : m = n := by
      generalize hm' : AV.str m = q at h1
      cases h1 <;> try (cases hm'; done)
      generalize hm2 : AV.str n = q2 at h3
      cases h3 <;> try (cases hm2; done)
      simp only [AV.str.injEq] at hm' hm2
      rw [hm', hm2]
    subst hmn
    simp only [eqScalars, (natsEq_iff m m).2 rfl, cond_true] at h
    exact scal_inj h h2 h4
  | .bool m :: a, .bool n :: b, _, r, h, .cons h1 h2, .cons h3 h4 => by
    cases h1; cases h3
    simp only [eqScalars, (boolEq_iff m m).2 rfl, cond_true] at h
    exact scal_inj h h2 h4

theorem key_inj {μ : Mu} {k a : AV} {v : Value} {b : Bool} (h : keyEq k a = some b) (hk : VR μ k v) (ha : VR μ a v) : b = true := by
  have h1 : VRL μ [k] [v] := .cons hk .nil
  have h2 : VRL μ [a] [v] := .cons ha .nil
  cases k <;> cases a <;> simp only [keyEq] at h <;> try (cases h; done)
  · exact scal_inj (a := [.bool _]) (b := [.bool _]) (by simp only [Option.some.injEq] at h; simp [eqScalars, h]; cases b <;> rfl) h1 h2
  · split at h
    · rename_i hkk
      exact scal_inj (a := [.int _ _]) (b := [.int _ _]) (by simp only [Option.some.injEq] at h; simp [eqScalars, h, hkk]; cases b <;> rfl) h1 h2
    · cases h
  · exact scal_inj (a := [.str _]) (b := [.str _]) (by simp only [Option.some.injEq] at h; simp [eqScalars, h]; cases b <;> rfl) h1 h2
  · cases hk with | agg hk => cases ha with | agg ha => exact scal_inj h hk ha

/-- bits of a key -/
theorem sameBits_scal {μ : Mu} (n : Nat) : ∀ {a : List AV} {x : List Value} {r : Bool}, eqScalars a a = some r → VRL μ a x → ((x.zip x).all fun (p : Value × Value) => Instr.sameBits n p.1 p.2) = true
  | [], _, _, _, .nil => rfl
  | .int k m :: a, _, r, h, .cons h1 h2 => by
    simp only [eqScalars, if_true, (intEq_iff m m).2 rfl, cond_true] at h
    cases h1
    simp only [List.zip_cons_cons, List.all_cons, sameBits_scal n h h2, Bool.and_true]
    cases n <;> simp [Instr.sameBits]
  | .str m :: a, _, r, h, .cons h1 h2 => by
    simp only [eqScalars, (natsEq_iff m m).2 rfl, cond_true] at h
    simp only [List.zip_cons_cons, List.all_cons, sameBits_scal n h h2, Bool.and_true]
    cases h1
    rename_i s
    have : (s == s) = true := by rw [beq_toListBytes]; simp
    cases n <;> simp [Instr.sameBits, this]
  | .bool m :: a, _, r, h, .cons h1 h2 => by
    simp only [eqScalars, (boolEq_iff m m).2 rfl, cond_true] at h
    cases h1
    simp only [List.zip_cons_cons, List.all_cons, sameBits_scal n h h2, Bool.and_true]
    cases n <;> simp [Instr.sameBits]

theorem sameBits_key {μ : Mu} {k : AV} {x : Value} {r : Bool} (hk : keyEq k k = some r) (h : VR μ k x) : Instr.sameBits 10000 x x = true := by
  have h0 : (10000 : Nat) = 9999 + 1 := rfl
  rw [h0]
  generalize 9999 = n
  cases k <;> simp only [keyEq] at hk <;> try (cases hk; done)
  · cases h; simp [Instr.sameBits]
  · cases h; simp [Instr.sameBits]
  · cases h
    rename_i s
    have : (s == s) = true := by rw [beq_toListBytes]; simp
    simp [Instr.sameBits, this]
  · cases h with | agg h =>
    simp only [Instr.sameBits, beq_self_eq_true, Bool.true_and]
    exact sameBits_scal n hk h

theorem ER.split {μ : Mu} {en : MapEntry} : ∀ {es : List (AV × AV)} {l : List MapEntry}, ER μ es l → en ∈ l →
    ∃ A k u B A' B', es = A ++ (k, u) :: B ∧ l = A' ++ en :: B' ∧ ER μ A A' ∧ ER μ B B' ∧ VR μ k en.key ∧ VR μ u en.val
  | _, _, .nil, h => by cases h
  | _, _, .cons (k := k) (v := v) h1 h2 h3, h => by
    rcases List.mem_cons.1 h with rfl | h'
    · exact ⟨[], k, v, _, [], _, rfl, rfl, .nil, h3, h1, h2⟩
    · obtain ⟨A, k2, u, B, A', B', rfl, rfl, q1, q2, q3, q4⟩ := h3.split h'
      exact ⟨(k, v) :: A, k2, u, B, _ :: A', B', rfl, rfl, .cons h1 h2 q1, q2, q3, q4⟩

theorem ER.append {μ : Mu} : ∀ {a b : List (AV × AV)} {x y : List MapEntry}, ER μ a x → ER μ b y → ER μ (a ++ b) (x ++ y)
  | _, _, _, _, .nil, h => h
  | _, _, _, _, .cons h1 h2 h3, h => .cons h1 h2 (h3.append h)

theorem updateE_split {k v u : AV} : ∀ {A B : List (AV × AV)}, (∀ x ∈ A, keyEq k x.1 = some false) → keyEq k k = some true → updateE k v (A ++ (k, u) :: B) = A ++ (k, v) :: B
  | [], B, _, hk => by simp [updateE, isKey, hk]
  | (a, w) :: A, B, h, hk => by
    have := h (a, w) List.mem_cons_self
    simp only at this
    simp only [List.cons_append, updateE, isKey, this, cond_false]
    rw [updateE_split (fun x hx => h x (List.mem_cons_of_mem _ hx)) hk]

theorem removeE_split {k u : AV} : ∀ {A B : List (AV × AV)}, (∀ x ∈ A, keyEq k x.1 = some false) → keyEq k k = some true → removeE k (A ++ (k, u) :: B) = A ++ B
  | [], B, _, hk => by simp [removeE, isKey, hk]
  | (a, w) :: A, B, h, hk => by
    have := h (a, w) List.mem_cons_self
    simp only at this
    simp only [List.cons_append, removeE, isKey, this, cond_false]
    rw [removeE_split (fun x hx => h x (List.mem_cons_of_mem _ hx)) hk]

/-- the entry that is found, in both lists -/
theorem found_split {μ : Mu} {es : List (AV × AV)} {es' : Array MapEntry} {clock : Nat} {k : AV} {i : Nat} {en : MapEntry} {o : Option AV} (hm : MapR μ es es' clock) (hl : lookupE k es = some o)
    (hi : es'.toList[i]? = some en) (hk : VR μ k en.key) : ∃ A u B A' B' C D, es = A ++ (k, u) :: B ∧ es'.toList = C ++ en :: D ∧ C.length = i ∧ (A' ++ B').Perm (C ++ D) ∧ ER μ A A' ∧ ER μ B B' ∧
      VR μ u en.val ∧ (∀ x ∈ A, keyEq k x.1 = some false) ∧ (∀ x ∈ B, keyEq k x.1 = some false) ∧ keyEq k k = some true := by
  obtain ⟨l, hp, her⟩ := hm.ex
  have hen : en ∈ es'.toList := List.mem_of_getElem? hi
  obtain ⟨A, k2, u, B, A', B', rfl, rfl, q1, q2, q3, q4⟩ := her.split (hp.mem_iff.2 hen)
  obtain ⟨hall, _, _⟩ := lookupE_all hm.apart hl
  obtain ⟨b, hb⟩ := hall (k2, u) (by simp)
  have hbt := key_inj hb hk q3
  subst hbt
  have hkk : k = k2 := keyEq_true hb
  subst hkk
  have hap := hm.apart
  rw [List.pairwise_append] at hap
  obtain ⟨_, p2, p3⟩ := hap
  rw [List.pairwise_cons] at p2
  have hlt := (List.getElem?_eq_some_iff.1 hi)
  obtain ⟨hlt, hget⟩ := hlt
  have hsplit : es'.toList = es'.toList.take i ++ en :: es'.toList.drop (i + 1) := by
    rw [← hget, List.getElem_cons_drop, List.take_append_drop]
  refine ⟨A, u, B, A', B', es'.toList.take i, es'.toList.drop (i + 1), rfl, hsplit, by rw [List.length_take]; omega, ?_, q1, q2, q4, ?_, ?_, hb⟩
  · rw [hsplit] at hp
    have h1 : (en :: (A' ++ B')).Perm (en :: (es'.toList.take i ++ es'.toList.drop (i + 1))) := (List.perm_middle.symm.trans hp).trans List.perm_middle
    exact (List.perm_cons en).1 h1
  · intro x hx
    exact keyEq_comm (p3 x hx (k, u) (by simp))
  · intro x hx
    exact p2.1 x hx

end Go.Ab
end
