/- Frames: a round of a loop over a function. Frames: a round's begin. Frames: loops over functions. Frames: loops over functions, the statement. Frames: loops over functions, the statement. Frames: every statement. Frames: whole runs. An operation looks at its operands alone. Conditions: none. -/
import Derived.Test.YtbclmkfibgmgdaaGreatDoorRdWI
section
namespace Go.Ab

theorem setParams_ok {μ : Mu} {nt : Nat} : ∀ {ps : List Nat} {as : List AV} {as' : List Value} {tm tm' : T AV} {tmps : Array Value}, VRL μ as as' → TmR μ tm tmps → tmps.size = nt → setParams nt ps as tm = some tm' →
    ps.length = as'.length ∧ TmR μ tm' ((ps.zip as').foldl (fun tmps (p : Nat × Value) => tmps.setIfInBounds p.1 p.2) tmps) ∧ ((ps.zip as').foldl (fun tmps (p : Nat × Value) => tmps.setIfInBounds p.1 p.2) tmps).size = nt
  | [], _, _, tm, tm', tmps, .nil, r, hs, h => by
    simp only [setParams, Option.some.injEq] at h; subst h
    exact ⟨rfl, r, hs⟩
  | [], _, _, tm, tm', tmps, .cons _ _, r, hs, h => by simp [setParams] at h
  | p :: ps, _, _, tm, tm', tmps, .nil, r, hs, h => by simp [setParams] at h
  | p :: ps, _, _, tm, tm', tmps, .cons h1 h2, r, hs, h => by
    simp only [setParams] at h
    obtain ⟨g1, g2⟩ := guard_some h
    have hlt : p < nt := (blt_iff _ _).1 g1
    obtain ⟨k1, k2, k3⟩ := setParams_ok h2 (r.set (by rw [hs]; exact hlt) h1) (by simpa using hs) g2
    exact ⟨by simp [k1], k2, k3⟩

section
variable {E : Env} {O : Own} {P : Program} {rec : Rec} (hrec : RecOk E O P rec)
include hrec

theorem round_ok : RoundOk E O P rec := by
  intro l p args args' c cs μ h w hp ha r hb
  unfold roundA
  cases hl : h.loopAt l with
  | none => exact .bad
  | some x =>
    obtain ⟨st, pend, fn, tm, nt, ps, asg, body, d⟩ := x
    simp only [roundL]
    cases hs : setParams nt ps args tm with
    | none => exact .bad
    | some tm' =>
      have hg := loopAt_get hl
      obtain ⟨ob, g1, g2⟩ := r.at hg hp
      generalize hpsq : ps = psq at g2 hs
      simp only at g2
      cases g2 with | loop q1 q2 q3 q4 =>
      rename_i params pd tmps
      obtain ⟨k1, k2, k3⟩ := setParams_ok ha q1 q2 hs
      have hsz : args'.size = params.size := by simpa using k1.symm
      have hfold : (params.zip args').foldl (fun tmps (x : Nat × Value) => tmps.setIfInBounds x.1 x.2) tmps = (params.toList.zip args'.toList).foldl (fun tmps (p : Nat × Value) => tmps.setIfInBounds p.1 p.2) tmps := by
        rw [← Array.foldl_toList]; simp
      have hy : (Instr.yield p.blk args').run P w = .ok (.round p.blk fn ((params.toList.zip args'.toList).foldl (fun tmps (p : Nat × Value) => tmps.setIfInBounds p.1 p.2) tmps) asg body) w := by
        simp only [Instr.yield, Sem.run_bind, run_getLoop g1, Result.andThen_ok]
        rw [if_neg (by simp [hsz])]
        rw [← hfold]
        rfl
      have hst : St E O μ ⟨fn, nt, some l⟩ { (default : Frame) with fn := fn, kind := .normal, roundOf := some p.blk } tm' [] h ⟨(params.toList.zip args'.toList).foldl (fun tmps (p : Nat × Value) => tmps.setIfInBounds p.1 p.2) tmps, []⟩ w (c :: cs) :=
        ⟨rfl, .some hp, k2, k3, .nil, r, hb, .inl rfl, fun _ => ⟨by simp, rfl⟩⟩
      refine (hrec ⟨fn, nt, some l⟩ _ [.code asg, .beginRound, .code body] _ _ _ _ _ _ _ (.cons q4.1 (.cons rfl (.cons q4.2.1 .nil))) hst).mono ?_
      rintro x ⟨μ', w', v', a1, a2, a3, a4, a5, a6⟩
      refine ⟨_, _, _, _, hy, μ', w', v', a1, a2, a3, a4, a5, ?_⟩
      rcases a6 with ⟨b0, _⟩ | ⟨_, c2, cs2, b1, b2⟩
      · cases b0
      · cases b1
        exact b2

end
end Go.Ab
end
section
namespace Go.Ab

section
variable {E : Env} {O : Own} {P : Program} {fc : FC} {b : Frame} {cs : List Frame} {k : KF} (hk : KfOk E O P fc b cs k) {rec : Rec} {tm : T AV} {ds : List ADef} {h : Heap} {μ : Mu} {a : Act} {w : World}
  (s : St E O μ fc b tm ds h a w cs)
include hk s

theorem begin_ok {td : List Item} (ht : TdOk (E.ord fc.fn) td) : Leads (sBegin td E rec fc k tm ds h) (Ends E O P b cs μ h w (lone (b.atR a (.beginRound :: td)) cs w)) := by
  unfold sBegin
  split
  · rename_i fn nt l
    have hr := s.round
    obtain ⟨p, hb, hp⟩ : ∃ p, b.roundOf = some p.blk ∧ μ l = some p := by generalize b.roundOf = q at hr; cases hr with | some e => exact ⟨_, rfl, e⟩
    cases hl : h.loopAt l with
    | none => exact .bad
    | some x =>
      obtain ⟨st, pend, fn', tm', nt', ps, asg, body, d⟩ := x
      have hg := loopAt_get hl
      obtain ⟨ob, g1, g2⟩ := s.rel.at hg hp
      cases g2 with | loop q1 q2 q3 q4 =>
      rename_i params pd tmps
      simp only [beginL]
      apply guard_leads
      intro hst
      have hst : st = .ready := by cases st <;> simp [isReady] at hst; rfl
      have hrun : ∀ r : Loop, w.heap[p.blk]? = some (.loop r) → r.state = .ready → (Instr.beginRound p.blk).run P w = .ok () { w with heap := w.heap.setIfInBounds p.blk (.loop { r with state := .busy }) } := by
        intro r h1 h2
        have hs := run_setObj (P := P) (ob := .loop { r with state := .busy }) h1 (fun _ _ _ hh => by cases hh)
        simp only [Instr.beginRound, Sem.run_bind, run_getLoop h1, Result.andThen_ok, hs, h2, Sem.run_pure]
      obtain ⟨ob1, hob1, hob2⟩ : ∃ ob1, (Instr.beginRound p.blk).run P w = .ok () { w with heap := w.heap.setIfInBounds p.blk ob1 } ∧ OR' E μ p (.loop .busy pend fn' tm' nt' _ asg body d) ob1 :=
        ⟨_, hrun _ g1 hst, .loop q1 q2 q3 q4⟩
      refine leadsOf (Gr.put (o := .loop .busy pend fn' tm' nt' params.toList asg body d) hg) (step_set (ob := ob1) (s.rel.own l _ p hg rfl hp)) (Steps.one (stepR_beginRound hb hob1)) ?_
      exact hk td tm ds _ μ a _ ht (s.move (Mu.le_refl μ) (s.rel.put hg hp rfl rfl hob2) s.bound)
  · exact .bad

end
end Go.Ab
end
section
namespace Go.Ab

section
variable {P : Program} {b : Frame} {a : Act} {k : List Item} {cs : List Frame} {w w1 w2 : World}

/-- the loop is made and its function entered -/
theorem stR_rangeEnter {f : Operand} {ps : Array Tmp} {asg body : Code} {l : Nat} {mark : List Deferred} {g : FuncId} {args : Array Value}
    (hl : (Instr.enterLoop b.fn a.tmps ps asg body b.roundOf).run P w = .ok (l, mark) w1)
    (hr : (do let d ← Deferred.ofValue (a.eval f) #[.func (.yield l) #[] #[]]; Go.invoke d.target d.args : Sem Next).run P w1 = .ok (.enter g args) w2) :
    step P (lone (b.atR a (.code (.rangeFunc f ps asg body) :: k)) cs w) =
      .next (lone (Frame.enter P g args .normal) (b.atR { a with defers := mark ++ a.defers } (.inRangeFunc l :: k) :: cs) w2) := by
  have he := Frame.eval_atR b { a with defers := mark ++ a.defers } (.inRangeFunc l :: k)
  have he2 : ({ a with defers := mark ++ a.defers } : Act).eval = a.eval := by funext x; cases x <;> rfl
  rw [he2] at he
  simp only [Frame.atR] at he
  refine step_lone_go ?_
  have hr2 : (do let d ← resolve a.eval { callee := .value f, args := #[.const (.func (.yield l) #[] #[])], argTypes := #[] } 0; Go.invoke d.target d.args : Sem Next).run P w1 = .ok (.enter g args) w2 := by
    rw [← hr]; simp [resolve, Act.eval]
  simp only [stepG, stepG.exec, Frame.atR, Sem.runT_eq, hl]
  simp only [stepG.apply, he, Sem.runT_eq, hr2]
  simp

theorem stR_rangeRound {f : Operand} {ps : Array Tmp} {asg body : Code} {l : Nat} {mark : List Deferred} {m : Nat} {g : FuncId} {tmps : Array Value} {asg2 body2 : Code}
    (hl : (Instr.enterLoop b.fn a.tmps ps asg body b.roundOf).run P w = .ok (l, mark) w1)
    (hr : (do let d ← Deferred.ofValue (a.eval f) #[.func (.yield l) #[] #[]]; Go.invoke d.target d.args : Sem Next).run P w1 = .ok (.round m g tmps asg2 body2) w2) :
    step P (lone (b.atR a (.code (.rangeFunc f ps asg body) :: k)) cs w) =
      .next (lone (Frame.round m g tmps asg2 body2 .normal) (b.atR { a with defers := mark ++ a.defers } (.inRangeFunc l :: k) :: cs) w2) := by
  have he := Frame.eval_atR b { a with defers := mark ++ a.defers } (.inRangeFunc l :: k)
  have he2 : ({ a with defers := mark ++ a.defers } : Act).eval = a.eval := by funext x; cases x <;> rfl
  rw [he2] at he
  simp only [Frame.atR] at he
  refine step_lone_go ?_
  have hr2 : (do let d ← resolve a.eval { callee := .value f, args := #[.const (.func (.yield l) #[] #[])], argTypes := #[] } 0; Go.invoke d.target d.args : Sem Next).run P w1 = .ok (.round m g tmps asg2 body2) w2 := by
    rw [← hr]; simp [resolve, Act.eval]
  simp only [stepG, stepG.exec, Frame.atR, Sem.runT_eq, hl]
  simp only [stepG.apply, he, Sem.runT_eq, hr2]
  simp

theorem finish_range (v : Value) {l : Nat} : (b.atR a (.inRangeFunc l :: k)).finish v = b.atR a (.endRangeFunc l :: k) := rfl

theorem stR_rangeEnd {l : Nat} {jump : Option Code} (h : (Instr.endLoop l).run P w = .ok jump w1) :
    step P (lone (b.atR a (.endRangeFunc l :: k)) cs w) = .next (lone (b.atR a ((jump.map Item.code).toList ++ k)) cs w1) :=
  step_lone_go (by simp [stepG, stepG.exec, Frame.atR, Sem.runT_eq, h])

theorem run_endLoop {l : Nat} {r : Loop} (h : w.heap[l]? = some (.loop r)) (hb : isBusy r.state = false) :
    (Instr.endLoop l).run P w = .ok r.pending { w with heap := w.heap.setIfInBounds l (.loop { r with state := .exhausted }) } := by
  have hs := run_setObj (P := P) (ob := .loop { r with state := .exhausted }) h (fun _ _ _ hh => by cases hh)
  have hst : r.state ≠ .busy := fun e => by rw [e] at hb; cases hb
  simp [Instr.endLoop, Sem.run_bind, run_getLoop h, hs, hst]

end
end Go.Ab
end
section
namespace Go.Ab

section
variable {E : Env} {O : Own} {P : Program} {fc : FC} {b : Frame} {cs : List Frame} {μ : Mu} {tm : T AV} {ds : List ADef} {h : Heap} {a : Act} {w : World}

theorem grow_open {t t' : T (Option AObj)} {n : Nat} {l l' : List Nat} {o ob : AObj} (h : (t' = t.set n (some ob) ∧ l' = n :: l) ∨ (t' = t ∧ l' = l)) : Grow ⟨t, n, l⟩ (Heap.put ⟨t', Nat.add n 2, l'⟩ (Nat.succ n) o) := by
  have h1 : ∀ c, c ∉ l' → t'.get none c = t.get none c := by
    intro c hc
    rcases h with ⟨rfl, rfl⟩ | ⟨rfl, rfl⟩
    · exact T.get_set_ne none t n c (some ob) fun e => hc (e ▸ List.mem_cons_self)
    · rfl
  have h2 : ∀ c, c ∈ l → c ∈ l' := by
    intro c hc
    rcases h with ⟨rfl, rfl⟩ | ⟨rfl, rfl⟩
    · exact List.mem_cons_of_mem _ hc
    · exact hc
  have h3 : ∀ c, c < n → t'.get none c = t.get none c := by
    intro c hc
    rcases h with ⟨rfl, rfl⟩ | ⟨rfl, rfl⟩
    · exact T.get_set_ne none t n c (some ob) (Nat.ne_of_lt hc)
    · rfl
  refine ⟨Nat.le_add_right n 2, fun c hc => List.mem_cons_of_mem _ (h2 c hc), fun c hc => ?_, fun c hc hh => ?_, fun c => (T.has_set t' (Nat.succ n) c (some o)).trans ?_⟩
  · have hc : c ∉ Nat.succ n :: l' := hc
    rw [List.mem_cons, not_or] at hc
    exact (Heap.get_put_ne ⟨t', Nat.add n 2, l'⟩ (Nat.succ n) c o hc.1).trans (h1 c hc.2)
  · have hc : c < n := hc
    exact (Heap.get_put_ne ⟨t', Nat.add n 2, l'⟩ (Nat.succ n) c o (by omega)).trans ((h3 c hc).trans hh)
  · rcases h with ⟨rfl, rfl⟩ | ⟨rfl, rfl⟩
    · exact T.has_set t n c (some ob)
    · rfl

/-- what opening a loop does -/
theorem open_ok {t : T (Option AObj)} {n : Nat} {l : List Nat} (s : St E O μ fc b tm ds ⟨t, n, l⟩ a w cs) {ps : Array Tmp} {asg body : Code} (hc : codeChk (E.ord fc.fn) asg = true ∧ codeChk (E.ord fc.fn) body = true) {d : Nat} {mark : List ADef} {h1 : Heap}
    (ho : openLoop fc.round t n l = some (d, mark, h1)) :
    ∃ μ' w' blk mark', (Instr.enterLoop b.fn a.tmps ps asg body b.roundOf).run P w = .ok (blk, mark') w' ∧ Gr μ μ' ⟨t, n, l⟩ (h1.put (Nat.succ n) (.loop .ready none fc.fn tm fc.nt ps.toList asg body d)) ∧ Step O w w' ∧ DRL μ' mark mark' ∧ (∃ p, μ' (Nat.succ n) = some p ∧ p.blk = blk) ∧
      HRel E O μ' (h1.put (Nat.succ n) (.loop .ready none fc.fn tm fc.nt ps.toList asg body d)) w'.heap ∧ Bound μ' h1 := by
  have hn : μ n = none := s.bound n (Nat.le_refl n)
  have hn1 : μ (n + 1) = none := s.bound (n + 1) (Nat.le_succ n)
  unfold openLoop at ho
  have hr := s.round
  split at ho
  · rename_i hrd
    simp only [Option.some.injEq, Prod.mk.injEq] at ho
    obtain ⟨rfl, rfl, rfl⟩ := ho
    have hb : b.roundOf = none := by rw [hrd] at hr; generalize b.roundOf = q at hr; cases hr; rfl
    have r1 := s.rel.add (b := n) (o := .deferred false []) (p := ⟨w.heap.size, 0, 0, 0, 0, false⟩) (ob := .deferred (some [])) hn rfl (.deferred .nil) (fun _ _ _ hh => by cases hh)
    have hn1' : (μ.add n ⟨w.heap.size, 0, 0, 0, 0, false⟩) (n + 1) = none := by simp only [Mu.add, if_neg (show n + 1 ≠ n by omega)]; exact hn1
    have hd1 : (μ.add n ⟨w.heap.size, 0, 0, 0, 0, false⟩) n = some ⟨w.heap.size, 0, 0, 0, 0, false⟩ := Mu.add_self
    have hle1 := Mu.le_add (p := ⟨w.heap.size, 0, 0, 0, 0, false⟩) hn
    have hle2 := Mu.le_add (p := ⟨w.heap.size + 1, 0, 0, 0, 0, false⟩) hn1'
    have r2 := r1.add (b := n + 1) (o := .loop .ready none fc.fn tm fc.nt ps.toList asg body n) (p := ⟨w.heap.size + 1, 0, 0, 0, 0, false⟩)
      (ob := .loop { state := .ready, pending := none, fn := fc.fn, tmps := a.tmps, params := ps, assign := asg, body, defers := w.heap.size }) hn1' (by simp)
      (.loop ((s.tm.mono hle1).mono hle2) s.nt (hle2 _ _ hd1) ⟨hc.1, hc.2, fun _ _ h => by cases h⟩) (fun _ _ _ hh => by cases hh)
    refine ⟨_, { w with heap := (w.heap.push (.deferred (some []))).push (.loop { state := .ready, pending := none, fn := fc.fn, tmps := a.tmps, params := ps, assign := asg, body, defers := w.heap.size }) }, w.heap.size + 1,
      [{ target := .collected w.heap.size, args := #[] }], ?_, ⟨Mu.le_trans hle1 hle2, fun c hc => ?_, ?_⟩, ?_, .cons (.coll (hle2 _ _ hd1)) .nil, ⟨_, Mu.add_self, rfl⟩, r2.same fun _ => rfl, ?_⟩
    · rw [hb, s.fn]
      simp [Instr.enterLoop]
      rfl
    · have hc : c < n := hc
      simp only [Mu.add, if_neg (show c ≠ n + 1 by omega), if_neg (show c ≠ n by omega)]
    · exact grow_open (.inl ⟨rfl, rfl⟩)
    · exact (step_push (d := w.drawn) (ob := .deferred (some [])) s.rel).trans (step_push (d := w.drawn) (w := { w with heap := w.heap.push (.deferred (some [])) }) r1)
    · intro c hc
      have hc : n + 2 ≤ c := hc
      simp only [Mu.add, if_neg (show c ≠ n + 1 by omega), if_neg (show c ≠ n by omega)]
      exact s.bound c (show n ≤ c by omega)
  · rename_i r hrd
    obtain ⟨p, hb, hp⟩ : ∃ p, b.roundOf = some p.blk ∧ μ r = some p := by rw [hrd] at hr; generalize b.roundOf = q at hr; cases hr with | some e => exact ⟨_, rfl, e⟩
    cases hl : Heap.loopAt ⟨t, n, l⟩ r with
    | none => rw [hl] at ho; cases ho
    | some x =>
      obtain ⟨st, pend, fn', tm', nt', ps', asg', body', d'⟩ := x
      rw [hl] at ho
      simp only [Option.some.injEq, Prod.mk.injEq] at ho
      obtain ⟨rfl, rfl, rfl⟩ := ho
      have hg := loopAt_get hl
      obtain ⟨ob, g1, g2⟩ := s.rel.at hg hp
      cases g2 with | loop q1 q2 q3 q4 =>
      rename_i params pd tmps
      have hle1 := Mu.le_add (p := ⟨w.heap.size, 0, 0, 0, 0, false⟩) hn1
      have r2 := s.rel.add (b := n + 1) (o := .loop .ready none fc.fn tm fc.nt ps.toList asg body d') (p := ⟨w.heap.size, 0, 0, 0, 0, false⟩)
        (ob := .loop { state := .ready, pending := none, fn := fc.fn, tmps := a.tmps, params := ps, assign := asg, body, defers := pd.blk }) hn1 rfl
        (.loop (s.tm.mono hle1) s.nt (hle1 _ _ q3) ⟨hc.1, hc.2, fun _ _ h => by cases h⟩) (fun _ _ _ hh => by cases hh)
      refine ⟨_, { w with heap := w.heap.push (.loop { state := .ready, pending := none, fn := fc.fn, tmps := a.tmps, params := ps, assign := asg, body, defers := pd.blk }) }, w.heap.size, [], ?_, ⟨hle1, fun c hc => ?_, ?_⟩,
        step_push (d := w.drawn) s.rel, .nil, ⟨_, Mu.add_self, rfl⟩, r2.same fun _ => rfl, ?_⟩
      · rw [hb, s.fn]
        simp [Instr.enterLoop, run_getLoop g1]
      · have hc : c < n := hc
        simp only [Mu.add, if_neg (show c ≠ n + 1 by omega)]
      · exact grow_open (ob := .deferred true []) (.inr ⟨rfl, rfl⟩)
      · intro c hc
        have hc : n + 2 ≤ c := hc
        simp only [Mu.add, if_neg (show c ≠ n + 1 by omega)]
        exact s.bound c (show n ≤ c by omega)

end
end Go.Ab
end
section
namespace Go.Ab

section
variable {E : Env} {O : Own} {P : Program} {fc : FC} {b : Frame} {cs : List Frame} {k : KF} (hk : KfOk E O P fc b cs k) {rec : Rec} (hcall : CallOk E O P rec) (hround : RoundOk E O P rec)
  {tm : T AV} {ds : List ADef} {h : Heap} {μ : Mu} {a : Act} {w : World}
include hk

theorem close_ok {n : Nat} {p : Pl} {td : List Item} (ht : TdOk (E.ord fc.fn) td) (s : St E O μ fc b tm ds h a w cs) (hp : μ n = some p) :
    Leads (closeLoop n td k tm ds h (h.loopAt n)) (Ends E O P b cs μ h w (lone (b.atR a (.endRangeFunc p.blk :: td)) cs w)) := by
  cases hl : h.loopAt n with
  | none => exact .bad
  | some x =>
    obtain ⟨st, pend, fn', tm', nt', ps, asg, body, d⟩ := x
    have hg := loopAt_get hl
    obtain ⟨ob, g1, g2⟩ := s.rel.at hg hp
    cases g2 with | loop q1 q2 q3 q4 =>
    rename_i params pd tmps
    simp only [closeLoop]
    cases hbz : isBusy st with
    | true => exact .bad
    | false =>
      obtain ⟨ob1, hob1, hob2⟩ : ∃ ob1, (Instr.endLoop p.blk).run P w = .ok pend { w with heap := w.heap.setIfInBounds p.blk ob1 } ∧ OR' E μ p (.loop .exhausted pend fn' tm' nt' _ asg body d) ob1 :=
        ⟨_, run_endLoop g1 hbz, .loop q1 q2 q3 q4⟩
      refine leadsOf (Gr.put (o := .loop .exhausted pend fn' tm' nt' params.toList asg body d) hg) (step_set (ob := ob1) (s.rel.own n _ p hg rfl hp)) (Steps.one (stR_rangeEnd hob1)) ?_
      have ht2 : TdOk (E.ord fc.fn) ((pend.map Item.code).toList ++ td) := by
        cases pend with
        | none => exact ht
        | some c => exact .cons (q4.2.2 _ c rfl) ht
      exact hk _ tm ds _ μ a _ ht2 (s.move (Mu.le_refl μ) (s.rel.put hg hp rfl rfl hob2) s.bound)

include hcall hround

theorem range_stmt_ok {f : Operand} {ps : Array Tmp} {asg body : Code} {td : List Item} (hc : codeChk (E.ord fc.fn) asg = true ∧ codeChk (E.ord fc.fn) body = true) (ht : TdOk (E.ord fc.fn) td) (s : St E O μ fc b tm ds h a w cs) :
    Leads (sRange f ps asg body td E rec fc k tm ds h) (Ends E O P b cs μ h w (lone (b.atR a (.code (.rangeFunc f ps asg body) :: td)) cs w)) := by
  obtain ⟨t, n, l⟩ := h
  simp only [sRange]
  cases ho : openLoop fc.round t n l with
  | none => exact .bad
  | some x =>
    obtain ⟨d, mark, h1⟩ := x
    obtain ⟨μ', w', blk, mark', henter, hgr, hst, hmark, ⟨p, hp, rfl⟩, hrel, hbd⟩ := open_ok s (ps := ps) (asg := asg) (body := body) hc ho
    have hle := hgr.le
    have hfv := operand_rel (s.tm.mono hle) f
    have hs1 : ∀ (μ2 : Mu) (h2 : Heap) (w2 : World), μ'.le μ2 → HRel E O μ2 h2 w2.heap → Bound μ2 h2 → St E O μ2 fc b tm (mark ++ ds) h2 { a with defers := mark' ++ a.defers } w2 cs := fun μ2 h2 w2 hl2 hr2 hb2 =>
      ⟨s.fn, s.round.mono (Mu.le_trans hle hl2), s.tm.mono (Mu.le_trans hle hl2), s.nt, (hmark.mono hl2).append (s.ds.mono (Mu.le_trans hle hl2)), hr2, hb2, s.quiet, s.stack⟩
    simp only
    unfold callLoop
    split
    · rename_i f2 first cap hf2
      rw [hf2] at hfv
      generalize hav : a.eval f = fv at hfv
      cases hfv with | func v1 v2 =>
      rename_i first' cap'
      refine (hcall f2 _ (first' ++ #[.func (.yield p.blk) #[] #[]] ++ cap') (b.atR { a with defers := mark' ++ a.defers } (.inRangeFunc p.blk :: td) :: cs) μ' _ w' ?_ hrel hbd).andThen ?_
      · have := (v1.append (VRL.cons (VR.yld hp) .nil)).append v2
        simpa using this
      · rintro v h3 ⟨hcf, μ2, w2, v', a1, a2, a3, a4, a5, fr, fn, b1, b2, b3, b4, b5, b6, b7⟩
        have hret := step_leave_returned (P := P) (fr := fr) (c := b.atR { a with defers := mark' ++ a.defers } (.inRangeFunc p.blk :: td)) (cs := cs) (w := w2) (v := v') ⟨b2, b3, b4, fn, b6, b7⟩
        rw [finish_range] at hret
        refine leadsOf (hgr.trans a1) (hst.trans a4) (.head (stR_rangeEnter henter ?_) (b1.trans (.one hret))) (close_ok hk ht (hs1 μ2 h3 w2 a1.le a5 a2) (a1.le _ _ hp))
        rw [hav]
        simpa [Deferred.ofValue, Go.invoke] using hcf
    · rename_i m hf2
      rw [hf2] at hfv
      generalize hav : a.eval f = fv at hfv
      cases hfv with | yld hm =>
      rename_i pm
      refine (hround m pm _ #[.func (.yield p.blk) #[] #[]] (b.atR { a with defers := mark' ++ a.defers } (.inRangeFunc p.blk :: td)) cs μ' _ w' hm (VRL.cons (VR.yld hp) .nil) hrel hbd).andThen ?_
      rintro v h3 ⟨f3, tmps, asg2, body2, hy, μ2, w2, v', a1, a2, a3, a4, a5, b1⟩
      rw [finish_range] at b1
      refine leadsOf (hgr.trans a1) (hst.trans a4) (.head (stR_rangeRound henter ?_) b1) (close_ok hk ht (hs1 μ2 h3 w2 a1.le a5 a2) (a1.le _ _ hp))
      rw [hav]
      simpa [Deferred.ofValue, Go.invoke] using hy
    · exact .bad

end
end Go.Ab
end
section
namespace Go.Ab

section
variable {q : Nat → List Nat}
theorem chk_seq {a b : Code} (h : codeChk q (.seq a b) = true) : codeChk q a = true ∧ codeChk q b = true := by
  have h : (codeChk q a && codeChk q b) = true := h
  simpa using h
theorem chk_cond {c : Operand} {a b : Code} (h : codeChk q (.cond c a b) = true) : codeChk q a = true ∧ codeChk q b = true := by
  have h : (codeChk q a && codeChk q b) = true := h
  simpa using h
theorem chk_range {f : Operand} {ps : Array Tmp} {a b : Code} (h : codeChk q (.rangeFunc f ps a b) = true) : codeChk q a = true ∧ codeChk q b = true := by
  have h : (codeChk q a && codeChk q b) = true := h
  simpa using h
theorem exitTo_chk {id : Nat} : ∀ {l r : List Item}, TdOk q l → exitTo id l = some r → TdOk q r
  | [], r, _, h => by simp [exitTo] at h
  | x :: l, r, ht, h => by
    cases x with
    | inBlock i =>
      simp only [exitTo] at h
      split at h
      · cases h; exact ht.tail
      · exact exitTo_chk ht.tail h
    | _ => exact exitTo_chk ht.tail h
theorem findLabel_chk {l : Nat} : ∀ {c r : Code}, codeChk q c = true → findLabel c l = some r → codeChk q r = true := by
  intro c
  induction c with
  | seq a b iha ihb =>
    intro r hc h
    obtain ⟨h1, h2⟩ := chk_seq hc
    simp only [findLabel] at h
    split at h
    · rename_i x hq
      cases h
      have := iha h1 hq
      show (codeChk q x && codeChk q b) = true
      rw [this, h2]; rfl
    · exact ihb h2 h
  | label i =>
    intro r hc h
    simp only [findLabel] at h
    split at h
    · cases h; rfl
    · cases h
  | _ => intro r hc h; simp [findLabel] at h
theorem gotoIn_chk {id : Nat} : ∀ {l r : List Item}, TdOk q l → gotoIn id l = some r → TdOk q r
  | [], r, _, h => by simp [gotoIn] at h
  | x :: l, r, ht, h => by
    cases x with
    | inScope c =>
      simp only [gotoIn] at h
      split at h
      · rename_i x hq
        cases h
        exact .cons (findLabel_chk ht.head hq) ht
      · exact gotoIn_chk ht.tail h
    | _ => exact gotoIn_chk ht.tail h

end

/-- what a region that draws its order is to come to -/
def DrawOk (E : Env) (O : Own) (P : Program) (rec : Rec) : Prop :=
  ∀ (fc : FC) (b : Frame) (cs : List Frame) (k : KF), KfOk E O P fc b cs k → ∀ (id : Nat) (ops : Array Oper) (td : List Item) (tm : T AV) (ds : List ADef) (h : Heap) (μ : Mu) (a : Act) (w : World), regChk (E.ord fc.fn id) ops.toList = true → TdOk (E.ord fc.fn) td → St E O μ fc b tm ds h a w cs →
    Leads (sDraw id ops.toList td E rec fc k tm ds h) (Ends E O P b cs μ h w (lone (b.atR a (.code (.region id ops true) :: td)) cs w))

section
variable {E : Env} {O : Own} {P : Program} {fc : FC} {b : Frame} {cs : List Frame} {k : KF} (ok : EnvOk E P) (hfol : P.follows .rangeFuncRecover = true) (hk : KfOk E O P fc b cs k) {rec : Rec}
  (hcall : CallOk E O P rec) (hcallN : CallOkN E O P rec) (hround : RoundOk E O P rec) (hdraw : DrawOk E O P rec)
include ok hfol hk hcall hcallN hround hdraw

theorem stepTodo_ok {td : List Item} {tm : T AV} {ds : List ADef} {h : Heap} {μ : Mu} {a : Act} {w : World} (ht : TdOk (E.ord fc.fn) td) (s : St E O μ fc b tm ds h a w cs) :
    Leads (stepTodo td E rec fc k tm ds h) (Ends E O P b cs μ h w (lone (b.atR a td) cs w)) := by
  cases td with
  | nil => exact leave_ok (jump := none) ok hcallN (fun _ _ h => by cases h) s (fun hb _ => stepR_end hb) (fun l v w' c cs' hb hkn hc hr => by rw [hc]; exact stepR_round_end hb hkn hr)
  | cons x td =>
    have hx := ht.head
    have ht' := ht.tail
    cases x with
    | inBlock id => exact to_ok (rec := rec) hk s ht' stepR_inBlock
    | inScope c => exact to_ok (rec := rec) hk s ht' stR_inScope
    | inLoop c => exact to_ok (rec := rec) hk s (.cons hx (.cons hx ht')) stepR_inLoop
    | beginRound => exact begin_ok (rec := rec) hk s ht'
    | code c =>
      have hx : codeChk (E.ord fc.fn) c = true := hx
      cases c with
      | skip => exact to_ok (rec := rec) hk s ht' stepR_skip
      | label l => exact to_ok (rec := rec) hk s ht' stepR_label
      | ret => exact leave_ok (jump := some .ret) ok hcallN (fun _ _ h => by cases h; rfl) s (fun hb _ => stepR_ret hb) (fun l v w' c cs' hb hkn hc hr => by rw [hc]; exact stepR_round_ret hb hkn hr)
      | seq x y =>
        obtain ⟨h1, h2⟩ := chk_seq hx
        exact to_ok (rec := rec) hk s (.cons h1 (.cons h2 ht')) stepR_seq
      | cond c x y =>
        obtain ⟨h1, h2⟩ := chk_cond hx
        exact cond_ok (rec := rec) hk s h1 h2 ht'
      | block id c => exact to_ok (rec := rec) hk s (.cons hx (.cons rfl ht')) stepR_block
      | loop c => exact to_ok (rec := rec) hk s (.cons hx (.cons hx ht')) stepR_loop
      | scope c => exact to_ok (rec := rec) hk s (.cons hx (.cons hx ht')) stR_scope
      | exit id =>
        simp only [stepTodo, stepItem, stepCode, sJump]
        cases hx : exitTo id td with
        | some td' => exact to_ok (rec := rec) hk s (exitTo_chk ht' hx) (stepR_exit hx)
        | none => exact leave_ok (jump := some (.exit id)) ok hcallN (fun _ _ h => by cases h; rfl) s (fun _ hj => by cases hj) (fun l v w' c cs' hb hkn hc hr => by rw [hc]; exact stepR_round_exit hb hkn hx hr)
      | goto l =>
        simp only [stepTodo, stepItem, stepCode, sJump]
        cases hx : gotoIn l td with
        | some td' => exact to_ok (rec := rec) hk s (gotoIn_chk ht' hx) (stepR_goto hx)
        | none => exact leave_ok (jump := some (.goto l)) ok hcallN (fun _ _ h => by cases h; rfl) s (fun _ hj => by cases hj) (fun l v w' c cs' hb hkn hc hr => by rw [hc]; exact stepR_round_goto hb hkn hx hr)
      | region id ops draw =>
        cases draw with
        | false => exact region_ok ok hfol hcall hround hk ht' s
        | true => exact hdraw fc b cs k hk id ops td tm ds h μ a w hx ht' s
      | rangeFunc f ps x y => exact range_stmt_ok hk hcall hround (chk_range hx) ht' s
      | refuse m => exact .bad
    | _ => exact .bad

end

theorem loopF_ok {E : Env} {O : Own} {P : Program} (ok : EnvOk E P) (hfol : P.follows .rangeFuncRecover = true) {rec : Rec} (hcall : CallOk E O P rec) (hcallN : CallOkN E O P rec) (hround : RoundOk E O P rec) (hdraw : DrawOk E O P rec)
    {fc : FC} {b : Frame} {cs : List Frame} : ∀ n, KfOk E O P fc b cs (loopF E rec fc n)
  | 0 => fun _ _ _ _ _ _ _ _ _ => .bad
  | n + 1 => fun _ _ _ _ _ _ _ ht s => stepTodo_ok ok hfol (loopF_ok ok hfol hcall hcallN hround hdraw n) hcall hcallN hround hdraw ht s

end Go.Ab
end
section
namespace Go.Ab

theorem runFr_succ (E : Env) (n d : Nat) (fc : FC) (tm : T AV) (td : List Item) (ds : List ADef) (h : Heap) : runFr E n (d + 1) fc tm td ds h = loopF E (runFr E n d) fc n tm td ds h := rfl

end Go.Ab
end
section
namespace Go.Ab

section
variable {E : Env} {tm tm2 : T AV}

def SameOn (tm tm2 : T AV) (l : List Operand) : Prop := ∀ x ∈ l, operand tm x = operand tm2 x

theorem operands_same : ∀ {l : List Operand}, SameOn tm tm2 l → operands tm l = operands tm2 l
  | [], _ => rfl
  | x :: l, h => by
    simp only [operands]
    rw [h x List.mem_cons_self, operands_same fun y hy => h y (List.mem_cons_of_mem _ hy)]

theorem fillS_same {fs : List Field} : ∀ {ps : List (Nat × Operand)} {cs : List AV}, SameOn tm tm2 (ps.map (·.2)) → fillS E tm fs ps cs = fillS E tm2 fs ps cs
  | [], _, _ => rfl
  | (i, x) :: ps, cs, h => by
    have hx : operand tm x = operand tm2 x := h x (by simp)
    have ih : ∀ cs, fillS E tm fs ps cs = fillS E tm2 fs ps cs := fun cs => fillS_same fun y hy => h y (by simp at hy ⊢; exact .inr hy)
    have e : fillS E tm fs ps = fillS E tm2 fs ps := funext ih
    simp only [fillS, hx, e]

theorem fillE_same {s : Nat} : ∀ {ps : List (Nat × Operand)} {cs : List AV}, SameOn tm tm2 (ps.map (·.2)) → fillE s tm ps cs = fillE s tm2 ps cs
  | [], _, _ => rfl
  | (i, x) :: ps, cs, h => by
    have hx : operand tm x = operand tm2 x := h x (by simp)
    have ih : ∀ cs, fillE s tm ps cs = fillE s tm2 ps cs := fun cs => fillE_same fun y hy => h y (by simp at hy ⊢; exact .inr hy)
    have e : fillE s tm ps = fillE s tm2 ps := funext ih
    simp only [fillE, hx, e]

theorem opt_same {x : Option Operand} (h : SameOn tm tm2 x.toList) : optOperand tm x = optOperand tm2 x := by
  cases x with
  | none => rfl
  | some x => simp only [optOperand]; rw [h x (by simp)]

/-- two ways to go on that do the same -/
def SameDO (E : Env) (tm tm2 : T AV) : DO → Prop
  | .pv f => f E tm = f E tm2
  | .rd x f => operand tm x = operand tm2 x ∧ ∀ h, f E tm h = f E tm2 h
  | .al f => f E tm = f E tm2
  | .full f => ∀ id h, f E tm id h = f E tm2 id h
  | .no => True

theorem xCall_same {c : Call} (h : SameOn tm tm2 c.operands.toList) (id : Nat) (hp : Heap) : xCall c E tm id hp = xCall c E tm2 id hp := by
  obtain ⟨callee, args, argTypes⟩ := c
  have ha : operands tm args.toList = operands tm2 args.toList := operands_same fun x hx => h x (by
    simp only [Call.operands, Array.toList_append, List.mem_append]; exact .inr hx)
  unfold xCall
  simp only [ha]
  cases callee with
  | builtin b => rfl
  | value f =>
    have hf : operand tm f = operand tm2 f := h f (by simp [Call.operands])
    simp only [xCallee, hf]
  | invoke a b => rfl

theorem doOp_same {o : Op} (h : SameOn tm tm2 o.operands.toList) : SameDO E tm tm2 (doOp o E) := by
  have one : ∀ x, x ∈ o.operands.toList → operand tm x = operand tm2 x := h
  cases o <;> simp only [doOp] <;> simp only [Op.operands] at h one <;> try trivial
  case move x => simp only [SameDO, pMove]; rw [one x (by simp)]
  case assign x => simp only [SameDO, pMove]; rw [one x (by simp)]
  case pick c a b => simp only [SameDO, pPick]; rw [one c (by simp), one a (by simp), one b (by simp)]
  case box e x => simp only [SameDO, aBox]; rw [one x (by simp)]
  case build t ps =>
    simp only [SameDO, pBuild]
    have hp : SameOn tm tm2 (ps.toList.map (·.2)) := by simpa using h
    split
    · rw [fillS_same hp]
    · split
      · rw [fillE_same hp]
      · rfl
    · rfl
  case buildSlice t n ps =>
    simp only [SameDO, aBuildSlice]
    have hp : SameOn tm tm2 (ps.toList.map (·.2)) := by simpa using h
    split
    · split
      · rw [fillE_same hp]
      · rfl
    · rfl
  case insert t m k v => intro id hp; simp only [xUpdate]; rw [one m (by simp), one k (by simp), one v (by simp)]
  case load t a => refine ⟨one a (by simp), fun hp => ?_⟩; simp only [pLoad]; rw [one a (by simp)]
  case store t a x => intro id hp; simp only [xStore]; rw [one a (by simp), one x (by simp)]
  case nilCheck x => simp only [SameDO, pNilCheck]; rw [one x (by simp)]
  case binOp op t x y ty => simp only [SameDO, pBin]; rw [one x (by simp), one y (by simp)]
  case unOp op t x => simp only [SameDO, pUn]; rw [one x (by simp)]
  case convert s d x =>
    have hx := one x (by simp)
    unfold convD
    split
    · refine ⟨hx, fun hp => ?_⟩; show convText (operand tm x) _ E hp = _; rw [hx]
    · intro id hp; show opt (convSlices s d (operand tm x) _ E hp) hp = _; rw [hx]
    · simp only [SameDO]; rw [hx]
    · simp only [SameDO]; rw [hx]
    · trivial
  case makeInterface t x => simp only [SameDO, pIface]; rw [one x (by simp)]
  case makeFunc fn a b =>
    simp only [SameDO, pFunc]
    rw [operands_same (l := a.toList) fun x hx => one x (by simp only [Array.toList_append, List.mem_append]; exact .inl hx),
      operands_same (l := b.toList) fun x hx => one x (by simp only [Array.toList_append, List.mem_append]; exact .inr hx)]
  case makeMap t r =>
    simp only [SameDO, aMakeMap]
    split
    · rfl
    · rw [one _ (by simp)]
    · rfl
  case makeSlice t l c => simp only [SameDO, aMakeSlice]; rw [one l (by simp), one c (by simp)]
  case slice t x lo hi mx =>
    simp only [SameDO, pSlice]
    have e : ∀ y, y ∈ x :: (lo.toList ++ (hi.toList ++ mx.toList)) → operand tm y = operand tm2 y := by
      intro y hy
      apply one
      simp only [Array.toList_append, Option.toList_toArray, List.mem_append, List.mem_cons] at hy ⊢
      rcases hy with hy | hy | hy | hy
      · exact .inl (.inl (.inl (.inl hy)))
      · exact .inl (.inl (.inr hy))
      · exact .inl (.inr hy)
      · exact .inr hy
    rw [e x (by simp), opt_same (x := lo) fun y hy => e y (by simp only [List.mem_cons, List.mem_append]; exact .inr (.inl hy)),
      opt_same (x := hi) fun y hy => e y (by simp only [List.mem_cons, List.mem_append]; exact .inr (.inr (.inl hy))),
      opt_same (x := mx) fun y hy => e y (by simp only [List.mem_cons, List.mem_append]; exact .inr (.inr (.inr hy)))]
  case fieldAddr s x f => simp only [SameDO, pFieldAddr]; rw [one x (by simp)]
  case field s x f => simp only [SameDO, pField]; rw [one x (by simp)]
  case indexAddr t x i => simp only [SameDO, pIndexAddr]; rw [one x (by simp), one i (by simp)]
  case index t x i => simp only [SameDO, pIndex]; rw [one x (by simp), one i (by simp)]
  case lookup t x i c => refine ⟨one x (by simp), fun hp => ?_⟩; simp only [pLookup]; rw [one x (by simp), one i (by simp)]
  case mapUpdate t m k v => intro id hp; simp only [xUpdate]; rw [one m (by simp), one k (by simp), one v (by simp)]
  case range t x => intro id hp; simp only [xRange]; rw [one x (by simp)]
  case next it s => intro id hp; simp only [xNext]; rw [one it (by simp)]
  case entry it => intro id hp; simp only [xEntry]; rw [one it (by simp)]
  case extract x i => simp only [SameDO, pExtract]; rw [one x (by simp)]
  case call c =>
    have hc : SameOn tm tm2 c.operands.toList := h
    unfold callD
    split
    · rename_i b hb
      have ha : ∀ x ∈ c.args.toList, operand tm x = operand tm2 x := fun x hx => hc x (by
        simp only [Call.operands, Array.toList_append, List.mem_append]; exact .inr hx)
      unfold builtinD
      split
      · rename_i x hx0 hl
        have hx := ha x (by rw [hl]; simp)
        unfold lenD
        split
        · refine ⟨hx, fun hp => ?_⟩; show lenM (operand tm x) hp = _; rw [hx]
        · simp only [SameDO]; rw [hx]
        · trivial
      · rename_i x hx0 hl
        have hx := ha x (by rw [hl]; simp)
        simp only [SameDO]; rw [hx]
      · rename_i x y hl
        simp only [SameDO]; rw [ha x (by rw [hl]; simp), ha y (by rw [hl]; simp)]
      · rename_i x y hl
        simp only [SameDO]; rw [ha x (by rw [hl]; simp), ha y (by rw [hl]; simp)]
      · intro id hp; rfl
      · intro id hp; exact xCall_same hc id hp
      · intro id hp; exact xCall_same hc id hp
      · intro id hp; exact xCall_same hc id hp
      · trivial
    · intro id hp; exact xCall_same hc id hp
    · trivial
  case defer c =>
    have hc : SameOn tm tm2 c.operands.toList := h
    intro id hp
    simp only [xDefer]
    split
    · rename_i f hf
      rw [hc f (by simp [Call.operands, hf]), operands_same (l := c.args.toList) fun x hx => hc x (by
        simp only [Call.operands, Array.toList_append, List.mem_append]; exact .inr hx)]
    · rfl

theorem sameOn_tmps {l : List Operand} (h : ∀ t ∈ tmpsOf l, tm.get undefA t = tm2.get undefA t) : SameOn tm tm2 l := by
  induction l with
  | nil => intro x hx; cases hx
  | cons y l ih =>
    intro x hx
    cases y with
    | tmp t =>
      rcases List.mem_cons.1 hx with rfl | hx
      · exact h t List.mem_cons_self
      · exact ih (fun t ht => h t (List.mem_cons_of_mem _ ht)) x hx
    | const v =>
      rcases List.mem_cons.1 hx with rfl | hx
      · rfl
      · exact ih h x hx
    | global v =>
      rcases List.mem_cons.1 hx with rfl | hx
      · rfl
      · exact ih h x hx
    | func v =>
      rcases List.mem_cons.1 hx with rfl | hx
      · rfl
      · exact ih h x hx

end
end Go.Ab
end
