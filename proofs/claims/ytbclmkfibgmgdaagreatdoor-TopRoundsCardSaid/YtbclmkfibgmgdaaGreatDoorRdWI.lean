/- Frames, step by step. Frames: what a run of one comes to. Frames: operations carried out, calls made. Frames: one operation of a region. Frames: regions that do not draw; simple statements. Frames: simple statements. Frames: deferred calls, the end. Frames: leaving. Conditions: none. -/
import Derived.Test.YtbclmkfibgmgdaaGreatDoorRdWF
import Derived.AtR
section
namespace Go.Ab

section
variable {P : Program} {b : Frame} {a : Act} {k : List Item} {cs : List Frame} {w w' : World} {ops : Array Oper} {i : Nat} {rest : List Nat} {o : Oper}

theorem stR_inScope {c : Code} : step P (lone (b.atR a (.inScope c :: k)) cs w) = .next (lone (b.atR a k) cs w) := step_lone_go (by simp [stepG, stepG.exec, Frame.atR])
theorem stR_scope {c : Code} : step P (lone (b.atR a (.code (.scope c) :: k)) cs w) = .next (lone (b.atR a (.code c :: .inScope c :: k)) cs w) := step_lone_go (by simp [stepG, stepG.exec, Frame.atR])

theorem stR_value {v : Value} (ho : ops[i]? = some o) (hw : Region.wanted o (yielded ops a.tmps) = true) (hr : (o.semAt b.roundOf a.eval).run P w = .ok (.value v) w') :
    step P (lone (b.atR a (.inRegion ops (i :: rest) :: k)) cs w) = .next (lone (b.atR (a.put o.dst v) (.inRegion ops rest :: k)) cs w') := by
  have hf : b.atR (a.put o.dst v) (.inRegion ops rest :: k) = (b.atR a (.inRegion ops (i :: rest) :: k)).finish v := by rw [Frame.finish_atR, ho]; rfl
  rw [hf]
  refine step_lone_go ?_
  rw [stepGR_op ho hw]
  simp [stepG.apply, Sem.runT_eq, hr]

theorem stR_skipped (ho : ops[i]? = some o) (hw : Region.wanted o (yielded ops a.tmps) = true) (hr : (o.semAt b.roundOf a.eval).run P w = .ok .skip w') :
    step P (lone (b.atR a (.inRegion ops (i :: rest) :: k)) cs w) = .next (lone (b.atR (a.put o.dst undef) (.inRegion ops rest :: k)) cs w') := by
  have hf : b.atR (a.put o.dst undef) (.inRegion ops rest :: k) = (b.atR a (.inRegion ops (i :: rest) :: k)).finish undef := by rw [Frame.finish_atR, ho]; rfl
  rw [hf]
  refine step_lone_go ?_
  rw [stepGR_op ho hw]
  simp [stepG.apply, Sem.runT_eq, hr]

theorem stR_enter {f : FuncId} {args : Array Value} (ho : ops[i]? = some o) (hw : Region.wanted o (yielded ops a.tmps) = true) (hr : (o.semAt b.roundOf a.eval).run P w = .ok (.enter f args) w') :
    step P (lone (b.atR a (.inRegion ops (i :: rest) :: k)) cs w) = .next (lone (Frame.enter P f args .normal) (b.atR a (.inRegion ops (i :: rest) :: k) :: cs) w') := by
  refine step_lone_go ?_
  rw [stepGR_op ho hw]
  simp [stepG.apply, Sem.runT_eq, hr, Frame.atR]

theorem stR_round {l : Nat} {f : FuncId} {tmps : Array Value} {asg body : Code} (ho : ops[i]? = some o) (hw : Region.wanted o (yielded ops a.tmps) = true)
    (hr : (o.semAt b.roundOf a.eval).run P w = .ok (.round l f tmps asg body) w') :
    step P (lone (b.atR a (.inRegion ops (i :: rest) :: k)) cs w) = .next (lone (Frame.round l f tmps asg body .normal) (b.atR a (.inRegion ops (i :: rest) :: k) :: cs) w') := by
  refine step_lone_go ?_
  rw [stepGR_op ho hw]
  simp [stepG.apply, Sem.runT_eq, hr, Frame.atR]

theorem stR_defer {d : Deferred} (ho : ops[i]? = some o) (hw : Region.wanted o (yielded ops a.tmps) = true) (hr : (o.semAt b.roundOf a.eval).run P w = .ok (.defer d) w') :
    step P (lone (b.atR a (.inRegion ops (i :: rest) :: k)) cs w) = .next (lone (b.atR (({ a with defers := d :: a.defers } : Act).put o.dst undef) (.inRegion ops rest :: k)) cs w') := by
  have hf : b.atR (({ a with defers := d :: a.defers } : Act).put o.dst undef) (.inRegion ops rest :: k) = (b.atR ({ a with defers := d :: a.defers } : Act) (.inRegion ops (i :: rest) :: k)).finish undef := by rw [Frame.finish_atR, ho]; rfl
  rw [hf]
  refine step_lone_go ?_
  rw [stepGR_op ho hw]
  simp [stepG.apply, Sem.runT_eq, hr, Frame.atR]

/-- no panic that a frame could recover -/
def Quiet (kd : CallKind) (cs : List Frame) : Prop := kd = .normal ∨ (kd = .deferred ∧ ∃ c rest, cs = c :: rest ∧ c.mode = .returning)

theorem Quiet.none {fr : Frame} (h : Quiet fr.kind cs) : tryRecover fr cs = none := by
  rcases h with h | ⟨h, c, rest, rfl, hm⟩
  · unfold tryRecover; rw [h]
  · unfold tryRecover; rw [h]; simp [hm]

theorem stR_recover (hfol : P.follows .rangeFuncRecover = true) (hq : Quiet b.kind cs) (ho : ops[i]? = some o) (hw : Region.wanted o (yielded ops a.tmps) = true)
    (hr : (o.semAt b.roundOf a.eval).run P w = .ok .recover w') :
    step P (lone (b.atR a (.inRegion ops (i :: rest) :: k)) cs w) = .next (lone (b.atR (a.put o.dst .nilIface) (.inRegion ops rest :: k)) cs w') := by
  have hf : b.atR (a.put o.dst .nilIface) (.inRegion ops rest :: k) = (b.atR a (.inRegion ops (i :: rest) :: k)).finish .nilIface := by rw [Frame.finish_atR, ho]; rfl
  rw [hf]
  have hn : tryRecover (b.atR a (.inRegion ops (i :: rest) :: k)) cs = none := Quiet.none (fr := b.atR a (.inRegion ops (i :: rest) :: k)) hq
  refine step_lone_go ?_
  rw [stepGR_op ho hw]
  simp only [stepG.apply, Sem.runT_eq, hr, hfol, if_true, hn]
  cases hb : b.roundOf <;> simp [Frame.atR, hb]

end
end Go.Ab
end
section
namespace Go.Ab

/-- the abstract loop's number and the model's -/
inductive RoundR (μ : Mu) : Option Nat → Option Nat → Prop
  | none : RoundR μ none none
  | some {l : Nat} {p : Pl} : μ l = some p → RoundR μ (some l) (some p.blk)

theorem RoundR.mono {μ ν : Mu} (h : μ.le ν) {x y : Option Nat} (r : RoundR μ x y) : RoundR ν x y := by
  cases r with
  | none => exact .none
  | some e => exact .some (h _ _ e)

/-- the numbers from 'next' on are free -/
def Bound (μ : Mu) (h : Heap) : Prop := ∀ c, h.next ≤ c → μ c = none

/-- what a run makes of a heap: what is not logged is as it was; a free number below 'next' stays free -/
structure Grow (h h' : Heap) : Prop where
  next : h.next ≤ h'.next
  log : ∀ b, b ∈ h.log → b ∈ h'.log
  same : ∀ b, b ∉ h'.log → h'.get b = h.get b
  none : ∀ b, b < h.next → h.get b = none → h'.get b = none
  has : ∀ b, h'.t.has b = h.t.has b
structure Gr (μ μ' : Mu) (h h' : Heap) : Prop where
  le : μ.le μ'
  keep : ∀ c, c < h.next → μ' c = μ c
  grow : Grow h h'

theorem Grow.refl (h : Heap) : Grow h h := ⟨Nat.le_refl _, fun _ hb => hb, fun _ _ => rfl, fun _ _ hb => hb, fun _ => rfl⟩
theorem Grow.trans {h h1 h2 : Heap} (a : Grow h h1) (b : Grow h1 h2) : Grow h h2 :=
  ⟨Nat.le_trans a.next b.next, fun c hc => b.log c (a.log c hc), fun c hc => (b.same c hc).trans (a.same c fun hh => hc (b.log c hh)),
    fun c hc hn => b.none c (Nat.lt_of_lt_of_le hc a.next) (a.none c hc hn), fun c => (b.has c).trans (a.has c)⟩
theorem Gr.refl (μ : Mu) (h : Heap) : Gr μ μ h h := ⟨Mu.le_refl μ, fun _ _ => rfl, .refl h⟩
theorem Gr.trans {μ μ1 μ2 : Mu} {h h1 h2 : Heap} (a : Gr μ μ1 h h1) (b : Gr μ1 μ2 h1 h2) : Gr μ μ2 h h2 :=
  ⟨Mu.le_trans a.le b.le, fun c hc => (b.keep c (Nat.lt_of_lt_of_le hc a.grow.next)).trans (a.keep c hc), a.grow.trans b.grow⟩
theorem Grow.put {h : Heap} {b : Nat} {o x : AObj} (hb : h.get b = some x) : Grow h (h.put b o) :=
  have g := GrowL.put (id := h.next) (o := o) (.inr ⟨x, hb⟩)
  ⟨Nat.le_refl _, g.log, g.same, fun c hc hn => g.none c (Nat.ne_of_lt hc) hn, g.has⟩
theorem Gr.put {μ : Mu} {h : Heap} {b : Nat} {o x : AObj} (hb : h.get b = some x) : Gr μ μ h (h.put b o) := ⟨Mu.le_refl μ, fun _ _ => rfl, .put hb⟩
theorem Gr.up {μ : Mu} {t : T (Option AObj)} {n m : Nat} {l : List Nat} (hm : n ≤ m) : Gr μ μ ⟨t, n, l⟩ ⟨t, m, l⟩ := ⟨Mu.le_refl μ, fun _ _ => rfl, ⟨hm, fun _ hb => hb, fun _ _ => rfl, fun _ _ hb => hb, fun _ => rfl⟩⟩
theorem GrowL.grow {n : Nat} {t : T (Option AObj)} {l : List Nat} {h' : Heap} (g : GrowL n ⟨t, n + 1, l⟩ h') (hn : n ≤ h'.next) : Grow ⟨t, n, l⟩ h' :=
  ⟨hn, g.log, g.same, fun c hc hh => g.none c (Nat.ne_of_lt hc) hh, g.has⟩

/-- a frame at hand, and its abstract one -/
structure St (E : Env) (O : Own) (μ : Mu) (fc : FC) (b : Frame) (tm : T AV) (ds : List ADef) (h : Heap) (a : Act) (w : World) (cs : List Frame) : Prop where
  fn : b.fn = fc.fn
  round : RoundR μ fc.round b.roundOf
  tm : TmR μ tm a.tmps
  nt : a.tmps.size = fc.nt
  ds : DRL μ ds a.defers
  rel : HRel E O μ h w.heap
  bound : Bound μ h
  quiet : Quiet b.kind cs
  stack : b.roundOf.isSome = true → cs ≠ [] ∧ b.kind = .normal

/-- how a frame is left -/
def Left (P : Program) (b : Frame) (cs : List Frame) (w' : World) (v' : Value) (m : Machine) : Prop :=
  (b.roundOf = none ∧ ∃ fr fn, Steps P m (lone fr cs w') ∧ fr.mode = .returning ∧ fr.defers = [] ∧ fr.kind = b.kind ∧ fr.fn = b.fn ∧ P.funcs[fr.fn]? = some fn ∧ (results fn fr.tmps).run P w' = .ok v' w') ∨
  (b.roundOf.isSome = true ∧ ∃ c cs', cs = c :: cs' ∧ Steps P m (lone (if b.kind = .normal then c.finish v' else c) cs' w'))

theorem Left.of_steps {P : Program} {b : Frame} {cs : List Frame} {w' : World} {v' : Value} {m m1 : Machine} (hs : Steps P m m1) (h : Left P b cs w' v' m1) : Left P b cs w' v' m := by
  rcases h with ⟨h0, fr, fn, h1, h2⟩ | ⟨h0, c, cs', h1, h2⟩
  · exact .inl ⟨h0, fr, fn, hs.trans h1, h2⟩
  · exact .inr ⟨h0, c, cs', h1, hs.trans h2⟩

def Ends (E : Env) (O : Own) (P : Program) (b : Frame) (cs : List Frame) (μ : Mu) (h : Heap) (w : World) (m : Machine) (x : AV × Heap) : Prop :=
  ∃ μ' w' v', Gr μ μ' h x.2 ∧ Bound μ' x.2 ∧ VR μ' x.1 v' ∧ Step O w w' ∧ HRel E O μ' x.2 w'.heap ∧ Left P b cs w' v' m

theorem Ends.of {E : Env} {O : Own} {P : Program} {b : Frame} {cs : List Frame} {μ μ1 : Mu} {h h1 : Heap} {w w1 : World} {m m1 : Machine} {x : AV × Heap} (hl : Gr μ μ1 h h1) (hw : Step O w w1) (hs : Steps P m m1)
    (he : Ends E O P b cs μ1 h1 w1 m1 x) : Ends E O P b cs μ h w m x := by
  obtain ⟨μ', w', v', a1, a2, a3, a4, a5, a6⟩ := he
  exact ⟨μ', w', v', hl.trans a1, a2, a3, hw.trans a4, a5, a6.of_steps hs⟩

theorem leadsOf {E : Env} {O : Own} {P : Program} {b : Frame} {cs : List Frame} {μ μ1 : Mu} {h h1 : Heap} {w w1 : World} {m m1 : Machine} {r : Out} (hl : Gr μ μ1 h h1) (hw : Step O w w1) (hs : Steps P m m1)
    (he : Leads r (Ends E O P b cs μ1 h1 w1 m1)) : Leads r (Ends E O P b cs μ h w m) := he.mono fun _ hx => hx.of hl hw hs
theorem leadsAt {E : Env} {O : Own} {P : Program} {b : Frame} {cs : List Frame} {μ : Mu} {h : Heap} {w : World} {m m1 : Machine} {r : Out} (hs : Steps P m m1)
    (he : Leads r (Ends E O P b cs μ h w m1)) : Leads r (Ends E O P b cs μ h w m) := leadsOf (.refl μ h) (Step.refl O w) hs he

/-- what a whole frame's run is to be -/
def RecOk (E : Env) (O : Own) (P : Program) (rec : Rec) : Prop :=
  ∀ (fc : FC) (b : Frame) (td : List Item) (tm : T AV) (ds : List ADef) (h : Heap) (μ : Mu) (a : Act) (w : World) (cs : List Frame), TdOk (E.ord fc.fn) td → St E O μ fc b tm ds h a w cs →
    Leads (rec fc tm td ds h) (Ends E O P b cs μ h w (lone (b.atR a td) cs w))

/-- the frame at hand gone on with -/
def KfOk (E : Env) (O : Own) (P : Program) (fc : FC) (b : Frame) (cs : List Frame) (k : KF) : Prop :=
  ∀ (td : List Item) (tm : T AV) (ds : List ADef) (h : Heap) (μ : Mu) (a : Act) (w : World), TdOk (E.ord fc.fn) td → St E O μ fc b tm ds h a w cs → Leads (k tm td ds h) (Ends E O P b cs μ h w (lone (b.atR a td) cs w))

def KoOk (E : Env) (O : Own) (P : Program) (fc : FC) (b : Frame) (cs : List Frame) (td : List Item) (k : KO) : Prop :=
  ∀ (tm : T AV) (ds : List ADef) (h : Heap) (μ : Mu) (a : Act) (w : World), St E O μ fc b tm ds h a w cs → Leads (k tm ds h) (Ends E O P b cs μ h w (lone (b.atR a td) cs w))

section
variable {E : Env} {O : Own} {P : Program} {fc : FC} {b : Frame} {cs : List Frame} {μ : Mu} {tm : T AV} {ds : List ADef} {h : Heap} {a : Act} {w : World}

/-- a value is put where it belongs -/
theorem put_ok {dst : Option Nat} {td : List Item} {k : KO} (hk : KoOk E O P fc b cs td k) (s : St E O μ fc b tm ds h a w cs) {v : AV} {v' : Value} (hv : VR μ v v') :
    Leads (putK fc.nt dst k tm ds v h) (Ends E O P b cs μ h w (lone (b.atR (a.put dst v') td) cs w)) := by
  unfold putK
  cases dst with
  | none => exact hk tm ds h μ a w s
  | some d =>
    apply guard_leads
    intro hd
    have hd : d < fc.nt := (blt_iff _ _).1 hd
    exact hk _ ds h μ _ w ⟨s.fn, s.round, s.tm.set (by rw [s.nt]; exact hd) hv, by simpa [Act.put] using s.nt, s.ds, s.rel, s.bound, s.quiet, s.stack⟩

theorem nth_oper {ops : Array Oper} (j : Nat) : nth ops.toList j = ops[j]? := by rw [nth_eq]; simp

theorem wanted_ok {ops : Array Oper} {o : Oper} (r : TmR μ tm a.tmps) {yes no : Out} {Φ : AV × Heap → Prop} (hy : Region.wanted o (yielded ops a.tmps) = true → Leads yes Φ)
    (hn : Region.wanted o (yielded ops a.tmps) = false → Leads no Φ) : Leads (stepWanted ops.toList o.guard tm yes no) Φ := by
  unfold stepWanted
  unfold Region.wanted at hy hn
  cases hg : o.guard with
  | none => rw [hg] at hy; exact hy rfl
  | some jw =>
    obtain ⟨j, want⟩ := jw
    simp only [hg] at hy hn
    simp only [wantedG, nth_oper]
    unfold yielded at hy hn
    cases hd : (ops[j]?).bind (·.dst) with
    | none =>
      simp only [hd, Option.bind_none] at hy hn
      exact hn rfl
    | some d =>
      simp only [hd, Option.bind_some] at hy hn
      have hr := r.get d
      have hgd : a.tmps.getD d undef = (a.tmps[d]?).getD undef := by simp
      rw [hgd] at hr
      generalize hq : a.tmps[d]? = q at hr hy hn
      suffices hgoal : Leads (match isWanted want (tm.get undefA d) with | some b => (Bool.rec no yes b : Out) | none => .bad) Φ from hgoal
      generalize tm.get undefA d = x at hr
      cases q with
      | none =>
        simp only at hy hn
        simp only [Option.getD_none] at hr
        cases hr with
        | tup _ => exact hn rfl
        | junk _ => exact .bad
      | some q =>
        simp only [Option.getD_some] at hr
        cases hr with
        | bool t =>
          suffices hgoal : Leads (Bool.rec no yes (boolEq t want) : Out) Φ from hgoal
          rw [boolEq_eq]
          have e : (some t == some want) = (t == want) := rfl
          rw [e] at hy hn
          cases ht : t == want with
          | true => exact hy ht
          | false => exact hn ht
        | junk v => exact .bad
        | _ => exact hn rfl

end
end Go.Ab
end
section
namespace Go.Ab

/-- what a call comes to: the frame that it makes runs to its end -/
def CallR (E : Env) (O : Own) (P : Program) (f : FuncId) (args' : Array Value) (kd : CallKind) (cs : List Frame) (μ : Mu) (h : Heap) (w : World) (x : AV × Heap) : Prop :=
  (callFunc f args').run P w = .ok (.enter f args') w ∧ ∃ μ' w' v', Gr μ μ' h x.2 ∧ Bound μ' x.2 ∧ VR μ' x.1 v' ∧ Step O w w' ∧ HRel E O μ' x.2 w'.heap ∧
    ∃ fr fn, Steps P (lone (Frame.enter P f args' kd) cs w) (lone fr cs w') ∧ fr.mode = .returning ∧ fr.defers = [] ∧ fr.kind = kd ∧ fr.fn = f ∧ P.funcs[fr.fn]? = some fn ∧ (results fn fr.tmps).run P w' = .ok v' w'

section
variable {E : Env} {P : Program} (ok : EnvOk E P) {O : Own} {rec : Rec} (hrec : RecOk E O P rec)
include ok hrec

theorem enter_ok {f : FuncId} {args : List AV} {args' : Array Value} {kd : CallKind} {cs : List Frame} {μ : Mu} {h : Heap} {w : World} (ha : VRL μ args args'.toList) (r : HRel E O μ h w.heap) (hb : Bound μ h) (hq : Quiet kd cs) :
    Leads (enterA rec f args h (E.ft.get none f)) (CallR E O P f args' kd cs μ h w) := by
  cases hf : E.ft.get none f with
  | none => exact .bad
  | some fn =>
    simp only [enterA]
    cases hbody : fn.body with
    | none => exact .bad
    | some c =>
      apply guard_leads
      intro hck
      simp only [Bool.and_eq_true, Nat.ble_eq] at hck
      obtain ⟨h1, h2⟩ := hck
      rw [len_eq] at h1
      have hl := ha.length
      have hfn := ok.funcs f fn hf
      have htm := enter_rel ha h1 h2
      have hst : St E O μ ⟨f, fn.ntmps, none⟩ { (default : Frame) with fn := f, kind := kd, roundOf := none } (T.sets args 0 (T.full undefA (depthOf fn.ntmps))) [] h ⟨args' ++ Array.replicate (fn.ntmps - args'.size) undef, []⟩ w cs :=
        ⟨rfl, .none, htm, by simp at hl ⊢; omega, .nil, r, hb, hq, fun hh => by cases hh⟩
      have hfr : Frame.enter P f args' kd = Frame.atR { (default : Frame) with fn := f, kind := kd, roundOf := none } ⟨args' ++ Array.replicate (fn.ntmps - args'.size) undef, []⟩ [.code c] := by
        simp [Frame.enter, Frame.atR, hfn, hbody]
      refine (hrec ⟨f, fn.ntmps, none⟩ _ [.code c] _ _ _ _ _ _ _ (.cons (ok.codes f fn c hf hbody) .nil) hst).mono ?_
      rintro x ⟨μ', w', v', a1, a2, a3, a4, a5, a6⟩
      refine ⟨ok.calls f fn hf (by rw [hbody]; rfl) args' w, μ', w', v', a1, a2, a3, a4, a5, ?_⟩
      rcases a6 with ⟨_, fr, fn2, b1, b2⟩ | ⟨b0, _⟩
      · rw [hfr]
        exact ⟨fr, fn2, b1, b2⟩
      · cases b0

end
end Go.Ab
end
section
namespace Go.Ab

/-- what every call is to come to -/
def CallOkN (E : Env) (O : Own) (P : Program) (rec : Rec) : Prop :=
  ∀ (f : FuncId) (args : List AV) (args' : Array Value) (kd : CallKind) (cs : List Frame) (μ : Mu) (h : Heap) (w : World), VRL μ args args'.toList → HRel E O μ h w.heap → Bound μ h → Quiet kd cs →
    Leads (callN E rec f args h) (CallR E O P f args' kd cs μ h w)
def CallOk (E : Env) (O : Own) (P : Program) (rec : Rec) : Prop :=
  ∀ (f : FuncId) (args : List AV) (args' : Array Value) (cs : List Frame) (μ : Mu) (h : Heap) (w : World), VRL μ args args'.toList → HRel E O μ h w.heap → Bound μ h →
    Leads (callA E rec f args h) (CallR E O P f args' .normal cs μ h w)
/-- what is known of the functions whose calls are not run is so -/
def SumOk (E : Env) (P : Program) : Prop :=
  ∀ (f : FuncId) (S : List AV → Heap → Option (AV × Heap)), E.sum f = some S → ∀ (O : Own) (args : List AV) (args' : Array Value) (cs : List Frame) (μ : Mu) (h : Heap) (w : World) (x : AV × Heap),
    VRL μ args args'.toList → HRel E O μ h w.heap → Bound μ h → S args h = some x → CallR E O P f args' .normal cs μ h w x
theorem CallOkN.call {E : Env} {O : Own} {P : Program} {rec : Rec} (hs : SumOk E P) (h : CallOkN E O P rec) : CallOk E O P rec := by
  intro f args args' cs μ hp w ha hr hb
  unfold callA callS
  split
  · exact h f args args' .normal cs μ hp w ha hr hb (.inl rfl)
  · rename_i S hS
    unfold told
    split
    · rename_i x hx
      exact .ret (hs f S hS O args args' cs μ hp w x ha hr hb hx)
    · exact .bad

/-- what every round of a loop is to come to -/
def RoundRes (E : Env) (O : Own) (P : Program) (l : Nat) (args' : Array Value) (c : Frame) (cs : List Frame) (μ : Mu) (h : Heap) (w : World) (x : AV × Heap) : Prop :=
  ∃ f tmps asg body, (Instr.yield l args').run P w = .ok (.round l f tmps asg body) w ∧ ∃ μ' w' v', Gr μ μ' h x.2 ∧ Bound μ' x.2 ∧ VR μ' x.1 v' ∧ Step O w w' ∧ HRel E O μ' x.2 w'.heap ∧
    Steps P (lone (Frame.round l f tmps asg body .normal) (c :: cs) w) (lone (c.finish v') cs w')
def RoundOk (E : Env) (O : Own) (P : Program) (rec : Rec) : Prop :=
  ∀ (l : Nat) (p : Pl) (args : List AV) (args' : Array Value) (c : Frame) (cs : List Frame) (μ : Mu) (h : Heap) (w : World), μ l = some p → VRL μ args args'.toList → HRel E O μ h w.heap → Bound μ h →
    Leads (roundA rec l args h) (RoundRes E O P p.blk args' c cs μ h w)

section
variable {E : Env} {O : Own} {P : Program} {fc : FC} {b : Frame} {cs : List Frame} {μ : Mu} {tm : T AV} {ds : List ADef} {h : Heap} {a : Act} {w : World}

theorem St.move (s : St E O μ fc b tm ds h a w cs) {μ' : Mu} {h' : Heap} {w' : World} (hl : μ.le μ') (hr : HRel E O μ' h' w'.heap) (hb : Bound μ' h') : St E O μ' fc b tm ds h' a w' cs :=
  ⟨s.fn, s.round.mono hl, s.tm.mono hl, s.nt, s.ds.mono hl, hr, hb, s.quiet, s.stack⟩

theorem bound_add {p : Pl} {n m : Nat} {t t' : T (Option AObj)} {l l' : List Nat} (hb : Bound μ ⟨t, n, l⟩) (hm : n < m) : Bound (μ.add n p) ⟨t', m, l'⟩ := by
  intro c hc
  have hc : m ≤ c := hc
  have hne : c ≠ n := by omega
  simp only [Mu.add, if_neg hne]
  exact hb c (show n ≤ c by omega)

theorem bound_le {n m : Nat} {t t' : T (Option AObj)} {l l' : List Nat} (hb : Bound μ ⟨t, n, l⟩) (hm : n ≤ m) : Bound μ ⟨t', m, l'⟩ := fun c hc => hb c (Nat.le_trans hm hc)

theorem gr_new {p : Pl} {n : Nat} {t : T (Option AObj)} {l : List Nat} {o : Option AObj} (hn : μ n = none) : Gr μ (μ.add n p) ⟨t, n, l⟩ ⟨t.set n o, Nat.succ n, n :: l⟩ := by
  refine ⟨Mu.le_add hn, fun c hc => ?_, ⟨Nat.le_succ n, fun c hc => List.mem_cons_of_mem _ hc, fun c hc => ?_, fun c hc hh => ?_, fun c => T.has_set t n c o⟩⟩
  · have : c ≠ n := Nat.ne_of_lt hc
    simp only [Mu.add, if_neg this]
  · exact T.get_set_ne none t n c o fun e => hc (e ▸ List.mem_cons_self)
  · have : c ≠ n := Nat.ne_of_lt hc
    exact (T.get_set_ne none t n c o this).trans hh
theorem gr_keep {μ' : Mu} {n : Nat} (hmu : μ' = μ ∨ ∃ p, μ' = μ.add n p) : ∀ c, c < n → μ' c = μ c := by
  intro c hc
  rcases hmu with rfl | ⟨p, rfl⟩
  · rfl
  · have : c ≠ n := Nat.ne_of_lt hc
    simp only [Mu.add, if_neg this]

theorem HRel.same {h2 : Heap} {hp : Array Obj} (r : HRel E O μ h hp) (hl : ∀ c, h2.get c = h.get c) : HRel E O μ h2 hp := r.less fun c o hc => by rw [← hl c]; exact hc

variable (ok : EnvOk E P) (hfol : P.follows .rangeFuncRecover = true) {rec : Rec} (hcall : CallOk E O P rec) (hround : RoundOk E O P rec)
include ok hfol hcall hround

theorem stepDO_ok {ops : Array Oper} {i : Nat} {rest : List Nat} {td : List Item} {o : Oper} {k : KO} (ho : ops[i]? = some o) (hw : Region.wanted o (yielded ops a.tmps) = true)
    (hk : KoOk E O P fc b cs (.inRegion ops rest :: td) k) (s : St E O μ fc b tm ds h a w cs) :
    Leads (stepDO (doOp o.op E) E rec fc o.dst k tm ds h) (Ends E O P b cs μ h w (lone (b.atR a (.inRegion ops (i :: rest) :: td)) cs w)) := by
  cases hd : doOp o.op E with
  | pv f =>
    have hnd : ∀ c, o.op ≠ .defer c := fun c hc => by rw [hc] at hd; cases hd
    simp only [stepDO]
    cases hv : f E tm with
    | none => exact .bad
    | some v =>
      obtain ⟨v', w', h1, h2, h3⟩ := pv_ok (O := O) ok hd s.tm hv
      refine leadsOf (.refl μ h) h3.step (.one (stR_value ho hw (by rw [Oper.semAt_eq _ _ _ hnd]; exact h1))) ?_
      exact put_ok hk (s.move (Mu.le_refl μ) (h3.rel h s.rel) s.bound) h2
  | rd x f =>
    have hnd : ∀ c, o.op ≠ .defer c := fun c hc => by rw [hc] at hd; cases hd
    simp only [stepDO]
    cases hv : f E tm h with
    | none => exact .bad
    | some v =>
      obtain ⟨v', h1, h2⟩ := rd_ok ok hd s.tm s.rel hv
      refine leadsAt (.one (stR_value ho hw (by rw [Oper.semAt_eq _ _ _ hnd]; exact h1))) ?_
      exact put_ok hk s h2
  | al f =>
    have hnd : ∀ c, o.op ≠ .defer c := fun c hc => by rw [hc] at hd; cases hd
    obtain ⟨t, n, l⟩ := h
    simp only [stepDO]
    cases hv : f E tm with
    | none => exact .bad
    | some og =>
      obtain ⟨ob, g⟩ := og
      have hn : μ n = none := s.bound n (Nat.le_refl n)
      obtain ⟨v', w', h1, p, h2, h3, h4⟩ := al_ok ok hd s.tm s.rel hn hv
      refine leadsOf (h1 := ⟨t.set n (some ob), Nat.succ n, n :: l⟩) (gr_new (p := p) hn) h2 (.one (stR_value ho hw (by rw [Oper.semAt_eq _ _ _ hnd]; exact h1))) ?_
      exact put_ok hk (s.move (h' := ⟨t.set n (some ob), Nat.succ n, n :: l⟩) (Mu.le_add hn) (h3.same fun _ => rfl) (bound_add s.bound (Nat.lt_succ_self n))) h4
  | full f =>
    obtain ⟨t, n, l⟩ := h
    simp only [stepDO]
    have hn : μ n = none := s.bound n (Nat.le_refl n)
    have r1 : HRel E O μ ⟨t, Nat.succ n, l⟩ w.heap := s.rel.same fun _ => rfl
    have hsem : (o.semAt b.roundOf a.eval = execOp a.eval o) ∨ ((∃ l, fc.round = some l) ∧ ∃ c, o.op = .defer c) := by
      have hr := s.round
      generalize fc.round = x, b.roundOf = y at hr
      cases hr with
      | none => exact .inl (Oper.semAt_none _ _)
      | some hp =>
        by_cases hdf : ∃ c, o.op = .defer c
        · exact .inr ⟨⟨_, rfl⟩, hdf⟩
        · exact .inl (Oper.semAt_eq _ _ _ fun c hc => hdf ⟨c, hc⟩)
    rcases hsem with hsem | ⟨⟨l0, hl0⟩, c, hc⟩
    · refine ((full_ok ok hd s.tm r1 hn).both (full_gr hd tm)).bind ?_
      rintro ⟨x, h'⟩ ⟨hx, hgr⟩
      cases x with
      | val v =>
        obtain ⟨μ', w', nx, v', hmu, hrun, hnx, hv, hst, hrel, hnext⟩ := hx
        have hle : μ.le μ' := by
          rcases hmu with rfl | ⟨p, rfl⟩
          · exact Mu.le_refl _
          · exact Mu.le_add hn
        have hbd : Bound μ' h' := by
          intro c hc
          rw [hnext] at hc
          have hc : n + 1 ≤ c := hc
          rcases hmu with rfl | ⟨p, rfl⟩
          · exact s.bound c (show n ≤ c by omega)
          · have hne : c ≠ n := by omega
            simp only [Mu.add, if_neg hne]
            exact s.bound c (show n ≤ c by omega)
        have hstep : step P (lone (b.atR a (.inRegion ops (i :: rest) :: td)) cs w) = .next (lone (b.atR (a.put o.dst v') (.inRegion ops rest :: td)) cs w') := by
          rw [← hsem] at hrun
          rcases hnx with rfl | ⟨rfl, rfl⟩ | ⟨rfl, rfl⟩
          · exact stR_value ho hw hrun
          · exact stR_skipped ho hw hrun
          · exact stR_recover hfol s.quiet ho hw hrun
        exact leadsOf ⟨hle, gr_keep hmu, hgr.grow (by show n ≤ h'.next; rw [hnext]; exact Nat.le_succ n)⟩ hst (.one hstep) (put_ok hk (s.move hle hrel hbd) hv)
      | enter f2 args =>
        obtain ⟨rfl, args', hargs, hrun⟩ := hx
        refine (hcall f2 args args' (b.atR a (.inRegion ops (i :: rest) :: td) :: cs) μ _ w hargs r1 (bound_le s.bound (Nat.le_succ n))).andThen ?_
        rintro v h2 ⟨hcf, μ', w', v', a1, a2, a3, a4, a5, fr, fn, b1, b2, b3, b4, b5, b6, b7⟩
        rw [hcf, ← hsem] at hrun
        have hret := step_leave_returned (P := P) (fr := fr) (c := b.atR a (.inRegion ops (i :: rest) :: td)) (cs := cs) (w := w') (v := v') ⟨b2, b3, b4, fn, b6, b7⟩
        rw [Frame.finish_atR, ho] at hret
        exact leadsOf ((Gr.up (Nat.le_succ n)).trans a1) a4 (.head (stR_enter ho hw hrun) (b1.trans (.one hret))) (put_ok hk (s.move a1.le a5 a2) a3)
      | round l2 args =>
        obtain ⟨rfl, p, args', hp, hargs, hrun⟩ := hx
        refine (hround l2 p args args' (b.atR a (.inRegion ops (i :: rest) :: td)) cs μ _ w hp hargs r1 (bound_le s.bound (Nat.le_succ n))).andThen ?_
        rintro v h2 ⟨f2, tmps, asg, body, hy, μ', w', v', a1, a2, a3, a4, a5, b1⟩
        rw [hy, ← hsem] at hrun
        rw [Frame.finish_atR, ho] at b1
        exact leadsOf ((Gr.up (Nat.le_succ n)).trans a1) a4 (.head (stR_round ho hw hrun) b1) (put_ok hk (s.move a1.le a5 a2) a3)
      | defer d =>
        obtain ⟨rfl, d', hdr, hrun⟩ := hx
        rw [← hsem] at hrun
        simp only [followA]
        obtain ⟨fn0, nt0, rd0⟩ := fc
        cases rd0 with
        | some l1 => exact .bad
        | none =>
          refine leadsOf (Gr.up (Nat.le_succ n)) (Step.refl O w) (.one (stR_defer ho hw hrun)) ?_
          exact put_ok (a := ({ a with defers := d' :: a.defers } : Act)) hk ⟨s.fn, s.round, s.tm, s.nt, .cons hdr s.ds, r1, bound_le s.bound (Nat.le_succ n), s.quiet, s.stack⟩ (vr_undef μ)
    · rw [hc] at hd
      cases hd
      obtain ⟨fn0, nt0, rd0⟩ := fc
      simp only at hl0
      subst hl0
      unfold xDefer
      simp only
      split
      · unfold deferA
        split
        · exact .bad
        · exact .bad
      · exact .bad
  | no => exact .bad

end
end Go.Ab
end
section
namespace Go.Ab

section
variable {E : Env} {O : Own} {P : Program} {fc : FC} {b : Frame} {cs : List Frame}
variable (ok : EnvOk E P) (hfol : P.follows .rangeFuncRecover = true) {rec : Rec} (hcall : CallOk E O P rec) (hround : RoundOk E O P rec)
include ok hfol hcall hround

theorem runOps_ok {ops : Array Oper} {td : List Item} {k : KO} (hk : KoOk E O P fc b cs td k) :
    ∀ (l : List Oper) (j : Nat), ops.toList.drop j = l → KoOk E O P fc b cs (.inRegion ops ((List.range ops.size).drop j) :: td) (runOps E rec fc ops.toList k l)
  | [], j, hl => by
    intro tm ds h μ a w s
    have hj : ops.size ≤ j := by simpa using List.drop_eq_nil_iff.1 hl
    have : (List.range ops.size).drop j = [] := List.drop_eq_nil_iff.2 (by simpa using hj)
    rw [this]
    exact leadsAt (.one stepR_region_end) (hk tm ds h μ a w s)
  | o :: l, j, hl => by
    intro tm ds h μ a w s
    have hj : j < ops.toList.length := by
      rcases Nat.lt_or_ge j ops.toList.length with h1 | h1
      · exact h1
      · rw [List.drop_eq_nil_iff.2 h1] at hl; cases hl
    have hlt : j < ops.size := by simpa using hj
    rw [List.drop_eq_getElem_cons hj] at hl
    obtain ⟨rfl, hl2⟩ := List.cons.inj hl
    have ho : ops[j]? = some ops.toList[j] := by simp [hlt]
    have hr : (List.range ops.size).drop j = j :: (List.range ops.size).drop (j + 1) := by
      rw [List.drop_eq_getElem_cons (by simpa using hlt)]; simp
    rw [hr]
    have hk2 := runOps_ok hk l (j + 1) hl2
    show Leads (stepOp E rec fc ops.toList ops.toList[j] (runOps E rec fc ops.toList k l) tm ds h) _
    unfold stepOp
    refine wanted_ok s.tm (fun hw => stepDO_ok ok hfol hcall hround ho hw hk2 s) (fun hw => ?_)
    have hst : step P (lone (b.atR a (.inRegion ops (j :: (List.range ops.size).drop (j + 1)) :: td)) cs w) =
        .next (lone (b.atR (a.put (ops.toList[j]).dst undef) (.inRegion ops ((List.range ops.size).drop (j + 1)) :: td)) cs w) := by
      have := stepR_op_skip (P := P) (b := b) (a := a) (k := td) (cs := cs) (w := w) (ops := ops) (i := j) (rest := (List.range ops.size).drop (j + 1)) (by rw [ho]; simpa using hw)
      rw [ho] at this
      exact this
    exact leadsAt (.one hst) (put_ok hk2 s (vr_undef μ))

theorem region_ok {id : Nat} {ops : Array Oper} {td : List Item} {k : KF} (hk : KfOk E O P fc b cs k) {tm : T AV} {ds : List ADef} {h : Heap} {μ : Mu} {a : Act} {w : World} (ht : TdOk (E.ord fc.fn) td) (s : St E O μ fc b tm ds h a w cs) :
    Leads (sRegion ops.toList td E rec fc k tm ds h) (Ends E O P b cs μ h w (lone (b.atR a (.code (.region id ops false) :: td)) cs w)) := by
  refine leadsAt (.one stepR_region) ?_
  have := runOps_ok ok hfol hcall hround (ops := ops) (td := td) (k := fun tm ds h => k tm td ds h) (fun tm ds h μ a w s => hk td tm ds h μ a w ht s) ops.toList 0 rfl tm ds h μ a w s
  rw [List.drop_zero] at this
  exact this

end
end Go.Ab
end
section
namespace Go.Ab

section
variable {E : Env} {O : Own} {P : Program} {fc : FC} {b : Frame} {cs : List Frame} {k : KF} (hk : KfOk E O P fc b cs k) {rec : Rec} {tm : T AV} {ds : List ADef} {h : Heap} {μ : Mu} {a : Act} {w : World}
  (s : St E O μ fc b tm ds h a w cs)
include hk s

theorem to_ok {td0 td : List Item} (ht : TdOk (E.ord fc.fn) td) (hs : step P (lone (b.atR a td0) cs w) = .next (lone (b.atR a td) cs w)) : Leads (sTo td E rec fc k tm ds h) (Ends E O P b cs μ h w (lone (b.atR a td0) cs w)) :=
  leadsAt (.one hs) (hk td tm ds h μ a w ht s)

theorem cond_ok {c : Operand} {x y : Code} {td : List Item} (hx : codeChk (E.ord fc.fn) x = true) (hy : codeChk (E.ord fc.fn) y = true) (ht : TdOk (E.ord fc.fn) td) : Leads (sCond c x y td E rec fc k tm ds h) (Ends E O P b cs μ h w (lone (b.atR a (.code (.cond c x y) :: td)) cs w)) := by
  unfold sCond condK
  have hc := operand_rel s.tm c
  split
  · rename_i t hbt
    rw [hbt] at hc
    generalize hv : a.eval c = cv at hc
    cases hc
    refine leadsAt (.one (stepR_cond hv)) ?_
    cases t
    · exact hk _ tm ds h μ a w (.cons hy ht) s
    · exact hk _ tm ds h μ a w (.cons hx ht) s
  · exact .bad

end

/-! results -/
theorem tup_rel {μ : Mu} {l : List AV} {l' : List Value} (h : VRL μ l l') : VR μ (oneOrTup l) (if h : l'.toArray.size = 1 then l'.toArray[0] else .tuple l'.toArray) := by
  cases h with
  | nil => exact .tup .nil
  | cons h1 h2 =>
    cases h2 with
    | nil => exact h1
    | cons h2 h3 => exact .tup (.cons h1 (.cons h2 h3))

section
variable {E : Env} {O : Own} {P : Program} (ok : EnvOk E P) {tm : T AV} {h : Heap} {μ : Mu} {a : Act} {w : World}
include ok

theorem result_ok (r : TmR μ tm a.tmps) (hr : HRel E O μ h w.heap) {x : ResultVar} {v : AV} (hv : resultA E tm h x = some v) :
    ∃ v', (match x with | .tmp t => pure (a.tmps.getD t undef) | .cell c t => do loadVar t (← asAddr (a.tmps.getD c undef)) : Sem Value).run P w = .ok v' w ∧ VR μ v v' := by
  cases x with
  | tmp t =>
    simp only [resultA, Option.some.injEq] at hv
    subst hv
    exact ⟨_, rfl, r.get t⟩
  | cell c t =>
    simp only [resultA] at hv
    cases hp : ptrOf (tm.get undefA c) with
    | none => rw [hp] at hv; cases hv
    | some q =>
      rw [hp] at hv
      have hc := r.get c
      rw [ptrOf_ok hp] at hc
      generalize hcv : a.tmps.getD c undef = cv at hc
      cases hc with | ptr hm =>
      obtain ⟨v', h1, h2⟩ := load_ok ok hr hm hv
      exact ⟨v', by simp [hcv, asAddr, h1], h2⟩

theorem resultsL_ok (r : TmR μ tm a.tmps) (hr : HRel E O μ h w.heap) : ∀ {l : List ResultVar} {vs : List AV}, resultsL E tm h l = some vs →
    ∃ vs', (l.mapM fun x => (match x with | .tmp t => pure (a.tmps.getD t undef) | .cell c t => do loadVar t (← asAddr (a.tmps.getD c undef)) : Sem Value)).run P w = .ok vs' w ∧ VRL μ vs vs'
  | [], vs, hv => by
    simp only [resultsL, Option.some.injEq] at hv; subst hv
    exact ⟨[], by simp, .nil⟩
  | x :: l, vs, hv => by
    simp only [resultsL] at hv
    cases hx : resultA E tm h x with
    | none => rw [hx] at hv; cases hv
    | some v =>
      cases hl : resultsL E tm h l with
      | none => rw [hx, hl] at hv; cases hv
      | some q =>
        rw [hx, hl] at hv
        simp only [Option.some.injEq] at hv
        subst hv
        obtain ⟨v', h1, h2⟩ := result_ok ok r hr hx
        obtain ⟨q', h3, h4⟩ := resultsL_ok r hr hl
        refine ⟨v' :: q', ?_, .cons h2 h4⟩
        simp only [List.mapM_cons, Sem.run_bind, h1, Result.andThen_ok, h3, Sem.run_pure]

theorem results_ok (r : TmR μ tm a.tmps) (hr : HRel E O μ h w.heap) {fn : Func} {vs : List AV} (hv : resultsL E tm h fn.results.toList = some vs) :
    ∃ v', (results fn a.tmps).run P w = .ok v' w ∧ VR μ (oneOrTup vs) v' := by
  obtain ⟨vs', h1, h2⟩ := resultsL_ok ok r hr hv
  refine ⟨_, ?_, tup_rel h2⟩
  unfold results
  rw [Array.mapM_eq_mapM_toList]
  simp only [Sem.run_bind]
  have e : ∀ m : Sem (List Value), m.run P w = .ok vs' w → (List.toArray <$> m : Sem (Array Value)).run P w = .ok vs'.toArray w := by
    intro m hm
    rw [map_eq_pure_bind, Sem.run_bind, hm]; rfl
  erw [e _ h1]
  rfl

end
end Go.Ab
end
section
namespace Go.Ab

/-- a frame that leaves -/
def outOf (b : Frame) (a : Act) (todo : List Item) : Frame := { b.atR a todo with mode := .returning }

section
variable {P : Program} {b : Frame} {a : Act} {todo : List Item} {cs : List Frame} {w w' : World}

theorem stU_coll {blk : Nat} {args : Array Value} {ds calls : List Deferred} (hr : (Instr.takeDeferred blk).run P w = .ok calls w') :
    step P (lone (outOf b { a with defers := { target := .collected blk, args } :: ds } todo) cs w) = .next (lone (outOf b { a with defers := calls ++ ds } todo) cs w') :=
  step_lone_go (by simp [outOf, stepG, unwind, Frame.atR, Sem.runT_eq, hr])

theorem stU_call {f g : FuncId} {cap args args' : Array Value} {ds : List Deferred} (hr : (callFunc f (args ++ cap)).run P w = .ok (.enter g args') w') :
    step P (lone (outOf b { a with defers := { target := .fn (.func f) cap, args } :: ds } todo) cs w) = .next (lone (Frame.enter P g args' .deferred) (outOf b { a with defers := ds } todo :: cs) w') :=
  step_lone_go (by simp [outOf, stepG, unwind, callDeferred, invoke, Frame.atR, Sem.runT_eq, hr])

theorem stU_back {fr : Frame} {fn : Func} {v : Value} (hm : fr.mode = .returning) (hd : fr.defers = []) (hk : fr.kind = .deferred) (hf : P.funcs[fr.fn]? = some fn) (hr : (results fn fr.tmps).run P w = .ok v w) :
    step P (lone fr (outOf b a todo :: cs) w) = .next (lone (outOf b a todo) cs w) :=
  step_lone_go (by simp [outOf, stepG, unwind, doReturn, hm, hd, hk, hf, Sem.runT_eq, hr])

theorem run_take {blk : Nat} {ds : List Deferred} (h : w.heap[blk]? = some (.deferred (some ds))) : (Instr.takeDeferred blk).run P w = .ok ds { w with heap := w.heap.setIfInBounds blk (.deferred none) } := by
  have hg := run_getObj (P := P) h (fun _ _ _ hh => by cases hh)
  have hs := run_setObj (P := P) (ob := .deferred none) h (fun _ _ _ hh => by cases hh)
  simp [Instr.takeDeferred, Sem.run_bind, hg, hs]
end

section
variable {E : Env} {O : Own} {P : Program} {fc : FC} {b : Frame} {cs : List Frame} (ok : EnvOk E P) {rec : Rec} (hcall : CallOkN E O P rec) {tm : T AV}
include ok hcall

theorem unwind_ok (hb : b.roundOf = none) {todo : List Item} : ∀ (n : Nat) (ds : List ADef) (h : Heap) (μ : Mu) (a : Act) (w : World), St E O μ fc b tm ds h a w cs →
    Leads (unwindA E rec fc.fn tm n ds h) (Ends E O P b cs μ h w (lone (outOf b a todo) cs w))
  | 0, _, _, _, _, _, _ => .bad
  | n + 1, [], h, μ, a, w, s => by
    simp only [unwindA]
    unfold resultsF
    cases hf : E.ft.get none fc.fn with
    | none => exact .bad
    | some fn =>
      simp only
      cases hl : resultsL E tm h fn.results.toList with
      | none => exact .bad
      | some l =>
        obtain ⟨v', h1, h2⟩ := results_ok ok s.tm s.rel hl
        have hd : a.defers = [] := by have := s.ds; generalize a.defers = q at this; cases this; rfl
        refine .ret ⟨μ, w, v', Gr.refl μ h, s.bound, h2, Step.refl O w, s.rel, .inl ⟨hb, outOf b a todo, fn, Steps.refl P _, rfl, hd, rfl, rfl, ?_, h1⟩⟩
        show P.funcs[b.fn]? = some fn
        rw [s.fn]; exact ok.funcs _ _ hf
  | n + 1, .coll r :: ds, h, μ, a, w, s => by
    simp only [unwindA]
    cases hg : h.get r with
    | none => exact .bad
    | some o =>
      simp only [Option.bind_some]
      unfold deferredOf
      split
      · rename_i l hl
        split at hl
        · rename_i l2
          simp only [Option.some.injEq] at hl
          subst hl
          obtain ⟨tmps, dfs⟩ := a
          have hds := s.ds
          simp only at hds
          cases hds with | cons h1 h2 =>
          cases h1 with | coll hm =>
          rename_i ds' p
          obtain ⟨ob, g1, g2⟩ := s.rel.at hg hm
          cases g2 with | deferred g2 =>
          rename_i dl
          refine leadsOf (Gr.put (o := .deferred true []) hg) (step_set (ob := .deferred none) (s.rel.own r _ p hg rfl hm)) (.one (stU_coll (a := ⟨tmps, []⟩) (run_take g1))) ?_
          exact unwind_ok hb n (l2 ++ ds) _ μ ⟨tmps, dl ++ ds'⟩ _ ⟨s.fn, s.round, s.tm, s.nt, g2.append h2, s.rel.put hg hm rfl rfl .taken, s.bound, s.quiet, s.stack⟩
        · cases hl
      · exact .bad
  | n + 1, .call f args :: ds, h, μ, a, w, s => by
    simp only [unwindA]
    obtain ⟨tmps, dfs⟩ := a
    have hds := s.ds
    simp only at hds
    cases hds with | cons h1 h2 =>
    cases h1 with | call hargs =>
    rename_i ds' cap args'
    refine (hcall f args (args' ++ cap) .deferred (outOf b ⟨tmps, ds'⟩ todo :: cs) μ h w (by simpa using hargs) s.rel s.bound (.inr ⟨rfl, _, _, rfl, rfl⟩)).andThen ?_
    rintro v h2' ⟨hcf, μ', w', v', a1, a2, a3, a4, a5, fr, fn, b1, b2, b3, b4, b5, b6, b7⟩
    refine leadsOf a1 a4 (.head (stU_call (a := ⟨tmps, []⟩) hcf) (b1.trans (.one (stU_back b2 b3 b4 b6 b7)))) ?_
    exact unwind_ok hb n ds h2' μ' ⟨tmps, ds'⟩ w' ⟨s.fn, s.round.mono a1.le, s.tm.mono a1.le, s.nt, h2.mono a1.le, a5, a2, s.quiet, s.stack⟩

end
end Go.Ab
end
section
namespace Go.Ab

theorem loopAt_get {h : Heap} {l : Nat} {x : LoopO} (hl : h.loopAt l = some x) : h.get l = some (.loop x.st x.pend x.fn x.tm x.nt x.ps x.assign x.body x.defers) := by
  unfold Heap.loopAt at hl
  cases hg : h.get l with
  | none => rw [hg] at hl; cases hl
  | some o =>
    rw [hg] at hl
    cases o <;> simp [loopOf] at hl
    subst hl; rfl

theorem run_getLoop {P : Program} {w : World} {b : Nat} {r : Loop} (h : w.heap[b]? = some (.loop r)) : (Instr.getLoop b).run P w = .ok r w := by
  have hg := run_getObj (P := P) h (fun _ _ _ hh => by cases hh)
  simp [Instr.getLoop, Sem.run_bind, hg]

theorem run_endRound {P : Program} {w : World} {b : Nat} {r : Loop} {jump : Option Code} (h : w.heap[b]? = some (.loop r)) :
    (Instr.endRound b jump).run P w = .ok (.bool jump.isNone) { w with heap := w.heap.setIfInBounds b (.loop { r with state := if jump.isNone then .ready else .done, pending := jump }) } := by
  have hs := run_setObj (P := P) (ob := .loop { r with state := if jump.isNone then .ready else .done, pending := jump }) h (fun _ _ _ hh => by cases hh)
  simp only [Instr.endRound, Sem.run_bind, run_getLoop h, Result.andThen_ok, hs, Sem.run_pure]

section
variable {E : Env} {O : Own} {P : Program} {fc : FC} {b : Frame} {cs : List Frame} (ok : EnvOk E P) {rec : Rec} (hcall : CallOkN E O P rec) {tm : T AV} {ds : List ADef} {h : Heap} {μ : Mu} {a : Act} {w : World}
include ok hcall

/-- leaving: 'hret' is the step of a function, 'hend' that of a round -/
theorem leave_ok {jump : Option Code} {td : List Item} (hj : ∀ q c, jump = some c → codeChk q c = true) (s : St E O μ fc b tm ds h a w cs)
    (hret : b.roundOf = none → isRet jump = true → step P (lone (b.atR a td) cs w) = .next (lone (outOf b a td) cs w))
    (hend : ∀ l v w' c cs', b.roundOf = some l → b.kind = .normal → cs = c :: cs' → (Instr.endRound l jump).run P w = .ok v w' → step P (lone (b.atR a td) cs w) = .next (lone (c.finish v) cs' w')) :
    Leads (leaveA jump E rec fc tm ds h) (Ends E O P b cs μ h w (lone (b.atR a td) cs w)) := by
  obtain ⟨fn, nt, rd⟩ := fc
  have hr := s.round
  cases rd with
  | none =>
    have hb : b.roundOf = none := by generalize b.roundOf = q at hr; cases hr; rfl
    apply guard_leads
    intro hj2
    exact leadsAt (.one (hret hb hj2)) (unwind_ok ok hcall (fc := ⟨fn, nt, none⟩) hb (todo := td) 64 ds h μ a w s)
  | some l =>
    obtain ⟨p, hb, hp⟩ : ∃ p, b.roundOf = some p.blk ∧ μ l = some p := by generalize b.roundOf = q at hr; cases hr with | some e => exact ⟨_, rfl, e⟩
    simp only [leaveA]
    cases hl : h.loopAt l with
    | none => exact .bad
    | some x =>
      obtain ⟨st, pend, fn', tm', nt', ps, asg, body, d⟩ := x
      have hg := loopAt_get hl
      obtain ⟨ob, g1, g2⟩ := s.rel.at hg hp
      cases g2 with | loop q1 q2 q3 q4 =>
      obtain ⟨hne, hkn⟩ := s.stack (by rw [hb]; rfl)
      obtain ⟨c, cs', rfl⟩ : ∃ c cs', cs = c :: cs' := by cases cs with | nil => exact absurd rfl hne | cons c cs' => exact ⟨c, cs', rfl⟩
      have hstep := hend p.blk _ _ c cs' hb hkn rfl (run_endRound g1)
      have hst : (if jump.isNone = true then LoopState.ready else .done) = (bif jump.isNone then .ready else .done) := by cases jump <;> rfl
      rw [hst] at hstep
      refine .ret ⟨μ, _, .bool jump.isNone, Gr.put hg, s.bound, .bool _, step_set (s.rel.own l _ p hg rfl hp), s.rel.put hg hp rfl rfl (.loop q1 q2 q3 ⟨q4.1, q4.2.1, hj⟩), .inr ⟨by rw [hb]; rfl, c, cs', rfl, ?_⟩⟩
      rw [if_pos hkn]
      exact .one hstep

end
end Go.Ab
end
