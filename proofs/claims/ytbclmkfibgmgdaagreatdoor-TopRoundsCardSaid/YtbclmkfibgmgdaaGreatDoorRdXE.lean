/- Regions that draw their order: one operation, in any order. Regions that draw their order: any order comes to the same. Conditions: none. -/
import Derived.Test.YtbclmkfibgmgdaaGreatDoorRdXC
section
namespace Go.Ab

section
variable {E : Env} {O : Own} {P : Program} {fc : FC} {b : Frame} {cs : List Frame} (ok : EnvOk E P) (hfol : P.follows .rangeFuncRecover = true) {rec : Rec} (hcall : CallOk E O P rec) (hround : RoundOk E O P rec)
include ok hfol hcall hround

theorem full_step {ops : Array Oper} {i : Nat} {rest : List Nat} {td : List Item} {o : Oper} {f : XF} (ho : ops[i]? = some o) {a : Act} {w : World} (hw : Region.wanted o (yielded ops a.tmps) = true) (hd : doOp o.op E = .full f)
    {tm : T AV} {h : Heap} {μ : Mu} (rt : TmR μ tm a.tmps) (r : HRel E O μ h w.heap) (hb : Bound μ h) {id : Nat} (hn : μ id = none) (hid : id < h.next) (hr : RoundR μ fc.round b.roundOf) (hq : Quiet b.kind cs) :
    Leads ((f E tm id h).bind (followA E rec (fun v h => .ret (v, h)) noDefer)) (fun x => ∃ μ' w' v', μ.le μ' ∧ (∀ c, c < h.next → c ≠ id → μ' c = μ c) ∧ EG id h x.2 ∧ Bound μ' x.2 ∧ VR μ' x.1 v' ∧ Step O w w' ∧ HRel E O μ' x.2 w'.heap ∧
      Steps P (lone (b.atR a (.inRegion ops (i :: rest) :: td)) cs w) (lone (b.atR (a.put o.dst v') (.inRegion ops rest :: td)) cs w')) := by
  have hsem : (o.semAt b.roundOf a.eval = execOp a.eval o) ∨ (∃ c, o.op = .defer c) := by
    by_cases hdf : ∃ c, o.op = .defer c
    · exact .inr hdf
    · exact .inl (Oper.semAt_eq _ _ _ fun c hc => hdf ⟨c, hc⟩)
  rcases hsem with hsem | ⟨c, hc⟩
  · refine ((full_ok ok hd rt r hn).both (full_gr hd tm)).bind ?_
    rintro ⟨x, h'⟩ ⟨hx, hgr⟩
    cases x with
    | val v =>
      obtain ⟨μ', w', nx, v', hmu, hrun, hnx, hv, hst, hrel, hnext⟩ := hx
      have hle : μ.le μ' := by
        rcases hmu with rfl | ⟨p, rfl⟩
        · exact Mu.le_refl _
        · exact Mu.le_add hn
      have hkeep : ∀ c, c ≠ id → μ' c = μ c := by
        intro c hc
        rcases hmu with rfl | ⟨p, rfl⟩
        · rfl
        · simp only [Mu.add, if_neg hc]
      refine .ret ⟨μ', w', v', hle, fun c _ hc => hkeep c hc, ⟨by show h.next ≤ h'.next; omega, hgr.log, hgr.same, fun c _ h1 h2 => hgr.none c h1 h2, hgr.has⟩, fun c hc => ?_, hv, hst, hrel, .one ?_⟩
      · have hc : h'.next ≤ c := hc
        rw [hkeep c (by omega)]; exact hb c (by omega)
      · rw [← hsem] at hrun
        rcases hnx with rfl | ⟨rfl, rfl⟩ | ⟨rfl, rfl⟩
        · exact stR_value ho hw hrun
        · exact stR_skipped ho hw hrun
        · exact stR_recover hfol hq ho hw hrun
    | enter f2 args =>
      obtain ⟨rfl, args', hargs, hrun⟩ := hx
      simp only [followA]
      refine (hcall f2 args args' (b.atR a (.inRegion ops (i :: rest) :: td) :: cs) μ _ w hargs r hb).andThen ?_
      rintro v h2 ⟨hcf, μ', w', v', a1, a2, a3, a4, a5, fr, fn, b1, b2, b3, b4, b5, b6, b7⟩
      rw [hcf, ← hsem] at hrun
      have hret := step_leave_returned (P := P) (fr := fr) (c := b.atR a (.inRegion ops (i :: rest) :: td)) (cs := cs) (w := w') (v := v') ⟨b2, b3, b4, fn, b6, b7⟩
      rw [Frame.finish_atR, ho] at hret
      exact .ret ⟨μ', w', v', a1.le, fun c hc _ => a1.keep c hc, ⟨a1.grow.next, a1.grow.log, a1.grow.same, fun c h1 _ h3 => a1.grow.none c h1 h3, a1.grow.has⟩, a2, a3, a4, a5, .head (stR_enter ho hw hrun) (b1.trans (.one hret))⟩
    | round l2 args =>
      obtain ⟨rfl, p, args', hp, hargs, hrun⟩ := hx
      simp only [followA]
      refine (hround l2 p args args' (b.atR a (.inRegion ops (i :: rest) :: td)) cs μ _ w hp hargs r hb).andThen ?_
      rintro v h2 ⟨f2, tmps, asg, body, hy, μ', w', v', a1, a2, a3, a4, a5, b1⟩
      rw [hy, ← hsem] at hrun
      rw [Frame.finish_atR, ho] at b1
      exact .ret ⟨μ', w', v', a1.le, fun c hc _ => a1.keep c hc, ⟨a1.grow.next, a1.grow.log, a1.grow.same, fun c h1 _ h3 => a1.grow.none c h1 h3, a1.grow.has⟩, a2, a3, a4, a5, .head (stR_round ho hw hrun) b1⟩
    | defer d => exact .bad
  · rw [hc] at hd
    cases hd
    unfold xDefer
    split
    · unfold deferA
      split
      · exact .bad
      · exact .bad
    · exact .bad

end

/-! the state at any time of any order -/
structure Inv (E : Env) (O : Own) (fc : FC) (ps : List Tr) (base : Nat) (tm0 : T AV) (h0 : Heap) (tr : Nat → TE) (μ0 : Mu) (ds : List ADef) (D : Nat → Bool) (μ : Mu) (a : Act) (w : World) : Prop where
  tm : TmR μ (tmAt ps tm0 tr D ps.length) a.tmps
  nt : a.tmps.size = fc.nt
  ds : DRL μ ds a.defers
  rel : HRel E O μ (heapAt ps base h0 tr D ps.length) w.heap
  bound : Bound μ (heapAt ps base h0 tr D ps.length)
  free : ∀ j, j < ps.length → D j = false → μ (base + idxAt ps j) = none
  le : μ0.le μ
  keep : ∀ c, c < base → μ c = μ0 c
  grown : Grown ps base h0 tr D ps.length

theorem TmR.same {μ : Mu} {tm tm2 : T AV} {x : Array Value} (r : TmR μ tm x) (h : ∀ t, tm2.get undefA t = tm.get undefA t) (hh : ∀ t, tm.has t = true → tm2.has t = true) : TmR μ tm2 x :=
  ⟨fun t => by rw [h]; exact r.get t, fun t ht => hh t (r.has t ht)⟩

theorem want_rel {ops : Array Oper} {o : Oper} {μ : Mu} {tm : T AV} {a : Act} (r : TmR μ tm a.tmps) {t : Bool} (h : Want ops.toList o tm = some t) : Region.wanted o (yielded ops a.tmps) = t := by
  have key : ∀ (y n : Out), stepWanted ops.toList o.guard tm y n = Bool.rec n y t := by
    intro y n
    unfold stepWanted
    unfold Want at h
    split
    · rename_i hg; rw [hg] at h; simp only [Option.some.injEq] at h; subst h; rfl
    · rename_i j want hg; rw [hg] at h; simp only at h; rw [h]
  cases t with
  | true =>
    have := wanted_ok (Φ := fun _ => Region.wanted o (yielded ops a.tmps) = true) r (o := o) (ops := ops) (yes := .ret (undefA, ⟨.leaf none, 0, []⟩)) (no := .bad) (fun h => .ret h) (fun _ => .bad)
    rw [key] at this
    exact this.of_ret
  | false =>
    have := wanted_ok (Φ := fun _ => Region.wanted o (yielded ops a.tmps) = false) r (o := o) (ops := ops) (yes := .bad) (no := .ret (undefA, ⟨.leaf none, 0, []⟩)) (fun _ => .bad) (fun h => .ret h)
    rw [key] at this
    exact this.of_ret

theorem hasN_mem {t : Nat} : ∀ {l : List Nat}, t ∈ l → hasN t l = true
  | x :: l, h => by
    simp only [hasN]
    rcases List.mem_cons.1 h with rfl | h
    · simp
    · rw [hasN_mem h]; cases Nat.beq t x <;> rfl

section
variable {E : Env} {rec : Rec} {L : List Oper} {ps : List Tr} {base nt : Nat} {tm0 : T AV} {h0 h00 : Heap} {tr : Nat → TE} {D : Nat → Bool}

/-- those that touch the heap, one ahead of the other -/
theorem eff_anc (hreg : RegOk L ps) (ht : TrOk E rec L ps base nt tm0 h0 h00 tr ps.length) {k j : Nat} (hk : k < ps.length) (hj : j < k) (h : ((tr k).ef ≠ none ∧ EfAl tr j) ∨ (∃ ob, (tr k).al = some ob ∧ isCells ob = false ∧ (tr j).ef ≠ none)) : Anc L (idxAt ps j) (idxAt ps k) := by
  obtain ⟨x, h1, h3, hK⟩ := ht k hk
  have hx : idxAt ps k = x.i := by simp [idxAt, h1]
  rw [hx]
  refine (hreg.at_ k x h1).2.1 _ ?_
  have hm : bitAt x.m (idxAt ps j) = true := by
    cases hK with
    | skip _ e => rw [e] at h; simp at h
    | pv _ _ _ e => rw [e] at h; simp at h
    | rd0 _ _ _ e _ => rw [e] at h; simp at h
    | rd _ _ _ e _ _ _ => rw [e] at h; simp at h
    | al _ _ _ e c =>
      rw [e] at h
      rcases h with ⟨h, _⟩ | ⟨ob, hob, hc, h⟩
      · exact absurd rfl h
      · simp only [Option.some.injEq] at hob
        subst hob
        rcases c with c | c
        · exact c _ (mem_effs h hj)
        · rw [hc] at c; cases c
    | full _ _ _ e c1 c2 _ =>
      rw [e] at h
      rcases h with ⟨_, h | h⟩ | ⟨ob, h, _⟩
      · exact c1 _ (mem_effs h hj)
      · exact c2 _ (mem_allocs h hj)
      · cases h
  exact hm

theorem read_ok (hreg : RegOk L ps) (ht : TrOk E rec L ps base nt tm0 h0 h00 tr ps.length) (h00e : ∀ c, h00.get c = h0.get c) (hb0 : base + ps.length ≤ h0.next) (hz : ∀ c, base ≤ c → h0.get c = none) (hlo : ∀ k, k < ps.length → idxAt ps k < ps.length) (hne : ∀ j k, j < ps.length → k < ps.length → j ≠ k → idxAt ps j ≠ idxAt ps k) (hD : ∀ j k, j < ps.length → k < ps.length → Anc L (idxAt ps j) (idxAt ps k) → D k = true → D j = true)
    (hDN : ∀ j, D j = true → j < ps.length) (g : Grown ps base h0 tr D ps.length) {i : Nat} (hi : i < ps.length) (hDi : D i = false) (hanc : ∀ k, k < ps.length → Anc L (idxAt ps k) (idxAt ps i) → k = i ∨ D k = true) {x : Tr} {b : Nat} {ob : AObj}
    (hM : ps[i]? = some x) (hrd : (tr i).rd = some (b, ob)) (hs : ∀ r hs, r ≤ countLate x.m (effsAt ps tr i) → (snapsAt h00 tr i)[r]? = some hs → hs.get b = some ob) :
    (heapAt ps base h0 tr D ps.length).get b = some ob := by
  obtain ⟨q, hqN, hq1, hq2⟩ := last_eff (tr := tr) D ps.length
  have hchain : ∀ k j, k < ps.length → D k = true → (tr k).ef ≠ none → j < k → (tr j).ef ≠ none → D j = true := fun k j hk hDk he hj hej =>
    hD j k (by omega) hk (eff_anc hreg ht hk hj (.inl ⟨he, .inl hej⟩)) hDk
  have hfree : ∀ j, q ≤ j → j < ps.length → (heapAt ps base h0 tr D q).get (base + idxAt ps j) = none := by
    intro j hj hjN
    rcases hq2 with rfl | ⟨p, h', rfl, hDp, hep⟩
    · exact hz _ (Nat.le_add_right _ _)
    · have hp : p < ps.length := hDN p hDp
      have hl := hlo j hjN
      have hd := hne j p hjN hp (by omega)
      have hnef : (tr p).ef ≠ none := by rw [hep]; simp
      simp only [heapAt, hDp, hep]
      have hbef : ∀ k, k < p → (tr k).ef ≠ none → D k = true := fun k hk hek => hchain p k hp hDp hnef hk hek
      have hnx := yes_next g (n := p) (by omega) hbef
      exact (g.at_ p hp hDp h' hep).none _ (by omega) (by omega) (yes_none g hb0 hz hlo hne (n := p) (by omega) hbef j (by omega) hjN)
  have hget : (heapAt ps base h0 tr D q).get b = some ob := by
    by_cases hqi : q ≤ i
    · have walk : ∀ n, q ≤ n → n ≤ i → ∃ r y, r ≤ countLate x.m (effsAt ps tr n) ∧ (snapsAt h00 tr n)[r]? = some y ∧ y.get b = (heapAt ps base h0 tr D q).get b := by
        intro n
        induction n with
        | zero =>
          intro h1 h2
          have : q = 0 := by omega
          subst this
          exact ⟨0, h00, Nat.zero_le _, rfl, h00e b⟩
        | succ n ih =>
          intro h1 h2
          rcases Nat.eq_or_lt_of_le h1 with he | hlt
          · rcases hq2 with h0' | ⟨p, h', hpq, hDp, hep⟩
            · omega
            · have : p = n := by omega
              subst this
              subst hpq
              refine ⟨0, h', Nat.zero_le _, ?_, ?_⟩
              · simp only [snapsAt, hep]; rfl
              · simp only [heapAt, hDp, hep]
          · obtain ⟨r, y, g1, g2, g3⟩ := ih (by omega) (by omega)
            simp only [effsAt, snapsAt]
            cases he : (tr n).ef with
            | none => exact ⟨r, y, g1, g2, g3⟩
            | some hh =>
              simp only
              have hDn : D n ≠ true := fun hDn => by rw [hq1 n (by omega) (by omega) hDn] at he; cases he
              have hbit : bitAt x.m (idxAt ps n) = false := by
                cases hbt : bitAt x.m (idxAt ps n) with
                | false => rfl
                | true =>
                  have hxi : idxAt ps i = x.i := by simp [idxAt, hM]
                  rcases hanc n (by omega) (by rw [hxi]; exact (hreg.at_ i x hM).2.1 _ hbt) with h4 | h4
                  · omega
                  · exact absurd h4 hDn
              refine ⟨r + 1, y, ?_, by simpa using g2, g3⟩
              simp only [countLate, hbit, cond_false]
              exact Nat.succ_le_succ g1
      obtain ⟨r, y, g1, g2, g3⟩ := walk i hqi (Nat.le_refl _)
      rw [← g3]; exact hs r y g1 g2
    · rcases hq2 with h0' | ⟨p, h', rfl, hDp, hep⟩
      · omega
      · have hne : p ≠ i := fun e => by subst e; rw [hDi] at hDp; cases hDp
        have hip : i < p := by omega
        have hp := hDN p hDp
        simp only [heapAt, hDp, hep]
        obtain ⟨x2, k1, k3, hK⟩ := ht p hp
        have hx2 : idxAt ps p = x2.i := by simp [idxAt, k1]
        cases hK with
        | skip _ e => rw [e] at hep; cases hep
        | pv _ _ _ e => rw [e] at hep; cases hep
        | rd0 _ _ _ e _ => rw [e] at hep; cases hep
        | rd _ _ _ e _ _ _ => rw [e] at hep; cases hep
        | al _ _ _ e _ => rw [e] at hep; cases hep
        | full _ _ _ e _ _ c3 =>
          rw [e] at hep
          simp only [Option.some.injEq] at hep
          subst hep
          rcases c3 _ (mem_reads hrd hip) with h5 | h5
          · have := hD i p hi hp (by rw [hx2]; exact (hreg.at_ p x2 k1).2.1 _ h5) hDp
            rw [hDi] at this; cases this
          · exact h5
  rw [d_get hqN hq1 fun k h1 h2 e => by rw [e, hfree k h1 h2] at hget; cases hget]
  exact hget

end
end Go.Ab
end
section
namespace Go.Ab

theorem tmp_reads {L : List Oper} {o : Oper} {t : Nat} (h : t ∈ tmpsOf o.op.operands.toList) : t ∈ readsOf L o := List.mem_append_right _ h

section
variable {E : Env} {O : Own} {P : Program} {fc : FC} {b : Frame} {cs : List Frame} (ok : EnvOk E P) (hfol : P.follows .rangeFuncRecover = true) {rec : Rec} (hcall : ∀ O, CallOk E O P rec) (hround : ∀ O, RoundOk E O P rec)
  {ops : Array Oper} {ps : List Tr} (hreg : RegOk ops.toList ps) {base : Nat} {tm0 : T AV} {h0 h00 : Heap} {tr : Nat → TE} {μ0 : Mu} {ds : List ADef} (ht : TrOk E rec ops.toList ps base fc.nt tm0 h0 h00 tr ps.length)
  (h00e : ∀ c, h00.get c = h0.get c) (hb0 : base + ps.length ≤ h0.next) (hz : ∀ c, base ≤ c → h0.get c = none) (hhas : ∀ d, d < fc.nt → tm0.has d = true) (hr : RoundR μ0 fc.round b.roundOf) (hq : Quiet b.kind cs)
  (hlo : ∀ k, k < ps.length → idxAt ps k < ps.length) (hne : ∀ j k, j < ps.length → k < ps.length → j ≠ k → idxAt ps j ≠ idxAt ps k) {td : List Item}
include ok hfol hcall hround hreg ht h00e hb0 hz hhas hr hq hlo hne

theorem exec_ok {D : Nat → Bool} (hD : ∀ j k, j < ps.length → k < ps.length → Anc ops.toList (idxAt ps j) (idxAt ps k) → D k = true → D j = true) (hDN : ∀ j, D j = true → j < ps.length) {i : Nat} (hi : i < ps.length) (hDi : D i = false)
    (hanc : ∀ k, k < ps.length → Anc ops.toList (idxAt ps k) (idxAt ps i) → k = i ∨ D k = true) {μ : Mu} {a : Act} {w : World} (inv : Inv E O fc ps base tm0 h0 tr μ0 ds D μ a w) (rest : List Nat) :
    ∃ μ' a' w', Steps P (lone (b.atR a (.inRegion ops (idxAt ps i :: rest) :: td)) cs w) (lone (b.atR a' (.inRegion ops rest :: td)) cs w') ∧ Step O w w' ∧ Inv E O fc ps base tm0 h0 tr μ0 ds (plus D i) μ' a' w' := by
  obtain ⟨⟨ix, o, m⟩, hPi, hdst, hK⟩ := ht i hi
  have hix : idxAt ps i = ix := by simp [idxAt, hPi]
  obtain ⟨hLi, hMi, _⟩ := hreg.at_ i _ hPi
  simp only at hLi hMi hdst
  rw [hix] at hanc
  rw [hix]
  have ho : ops[ix]? = some o := by rw [← Array.getElem?_toList]; exact hLi
  have hdi : dstAt ps i = o.dst := by simp [dstAt, hPi]
  have hlate : ∀ k, k < ps.length → Anc ops.toList ix (idxAt ps k) → D k = false := fun k hkN hk => by
    cases hh : D k with
    | false => rfl
    | true => have := hD i k hi hkN (by rw [hix]; exact hk) hh; rw [hDi] at this; cases this
  have hlt_of : ∀ {k d}, dstAt ps k = some d → ∃ t2 : Tr, ps[k]? = some t2 ∧ t2.o.dst = some d ∧ idxAt ps k = t2.i := by
    intro k d h
    unfold dstAt at h
    cases hh : ps[k]? with
    | none => rw [hh] at h; cases h
    | some x => rw [hh] at h; exact ⟨x, rfl, h, by simp [idxAt, hh]⟩
  have hsame : ∀ t, t ∈ readsOf ops.toList o → (tmAt ps tm0 tr D ps.length).get undefA t = (tmAt ps tm0 tr yes i).get undefA t := by
    intro t htr
    rw [← tm_yes (Nat.le_of_lt hi)]
    refine tm_agree fun k hk hdk => ?_
    obtain ⟨t2, ht2, hd2, hx2⟩ := hlt_of hdk
    rcases Nat.lt_trichotomy k i with h1 | h1 | h1
    · have hc : clash (readsOf ops.toList t2.o) t2.o.dst (readsOf ops.toList o) o.dst = true := by
        unfold clash; rw [hd2]; simp only; rw [hasN_mem htr]; simp
      rcases hanc k hk (by rw [hx2]; exact (hreg.pair k i t2 _ h1 ht2 hPi).2 hc) with h2 | h2
      · omega
      · rw [h2]; exact (below_iff.2 h1).symm
    · subst h1
      rw [hDi]
      cases hh : below k k with
      | false => rfl
      | true => have := below_iff.1 hh; omega
    · have hc : clash (readsOf ops.toList o) o.dst (readsOf ops.toList t2.o) t2.o.dst = true := by
        unfold clash; rw [hd2]; simp only; rw [hasN_mem htr]; simp
      rw [hlate k hk (by rw [hx2]; exact (hreg.pair i k _ t2 h1 hPi ht2).2 hc)]
      cases hh : below i k with
      | false => rfl
      | true => have := below_iff.1 hh; omega
  have hwlate : ∀ d, o.dst = some d → ∀ k, i < k → dstAt ps k = some d → D k = false := by
    intro d hd k hk hdk
    obtain ⟨t2, ht2, hd2, hx2⟩ := hlt_of hdk
    have hkN : k < ps.length := (List.getElem?_eq_some_iff.1 ht2).1
    have hc : clash (readsOf ops.toList o) o.dst (readsOf ops.toList t2.o) t2.o.dst = true := by
      unfold clash; rw [hd, hd2]; simp [sameD]
    exact hlate k hkN (by rw [hx2]; exact (hreg.pair i k ⟨ix, o, m⟩ t2 hk hPi ht2).2 hc)
  have hdo : SameDO E (tmAt ps tm0 tr D ps.length) (tmAt ps tm0 tr yes i) (doOp o.op E) := doOp_same (sameOn_tmps fun t htm => hsame t (tmp_reads htm))
  have hwant : Want ops.toList o (tmAt ps tm0 tr D ps.length) = Want ops.toList o (tmAt ps tm0 tr yes i) := by
    unfold Want
    split
    · rfl
    · rename_i j want hg
      unfold wantedG
      split
      · rename_i d hd
        rw [hsame d (by unfold readsOf guardTmp; rw [hg]; simp only [hd]; simp)]
      · rfl
  -- a value is put
  have hput : ∀ (μ' : Mu) (v' : Value) (w' : World), μ.le μ' → VR μ' (tr i).v v' → HRel E O μ' (heapAt ps base h0 tr (plus D i) ps.length) w'.heap → Bound μ' (heapAt ps base h0 tr (plus D i) ps.length) →
      (∀ j, j < ps.length → j ≠ i → D j = false → μ' (base + idxAt ps j) = none) → (∀ c, c < base → μ' c = μ c) → (∀ h', (tr i).ef = some h' → EG (base + idxAt ps i) (heapAt ps base h0 tr yes i) h') →
      Inv E O fc ps base tm0 h0 tr μ0 ds (plus D i) μ' (a.put o.dst v') w' := by
    intro μ' v' w' hle hv hrel hbd hfree hkeep hg
    have htm : TmR μ' (tmAt ps tm0 tr (plus D i) ps.length) (a.put o.dst v').tmps := by
      have hm := inv.tm.mono hle
      cases hd : o.dst with
      | none =>
        exact hm.same (fun t => tm_plus0 (hdi.trans hd) _ t) (fun t h => by rw [tm_has] at h ⊢; exact h)
      | some d =>
        have hdn := hdst d hd
        refine (hm.set (d := d) (v := (tr i).v) (v' := v') (by rw [inv.nt]; exact hdn) hv).same (fun t => ?_) (fun t h => by rw [T.has_set, tm_has] at h; rw [tm_has]; exact h)
        rw [tm_plus (hdi.trans hd) (hwlate d hd) (hhas d hdn) t hi]
        by_cases e : t = d
        · subst e
          rw [if_pos rfl, T.get_set_eq, tm_has, if_pos (hhas t hdn)]
        · rw [if_neg e, T.get_set_ne _ _ _ _ _ e]
    have hnt : (a.put o.dst v').tmps.size = fc.nt := by
      have := inv.nt
      cases o.dst <;> simpa [Act.put] using this
    have hds : DRL μ' ds (a.put o.dst v').defers := by
      have := inv.ds.mono hle
      cases o.dst <;> exact this
    refine ⟨htm, hnt, hds, hrel, hbd, fun j hj hpj => ?_, Mu.le_trans inv.le hle, fun c hc => (hkeep c hc).trans (inv.keep c hc), ⟨fun k hk hpk h' he => ?_⟩⟩
    · have hne : j ≠ i := fun e => by subst e; rw [plus_self] at hpj; cases hpj
      rw [plus_ne hne] at hpj
      exact hfree j hj hne hpj
    · by_cases e : k = i
      · subst e; exact hg h' he
      · rw [plus_ne e] at hpk; exact inv.grown.at_ k hk hpk h' he
  -- nothing becomes of the heap
  have hstay : ∀ (w' : World) (v' : Value), (tr i).al = none → (tr i).ef = none → VR μ (tr i).v v' → HRel E O μ (heapAt ps base h0 tr D ps.length) w'.heap →
      Inv E O fc ps base tm0 h0 tr μ0 ds (plus D i) μ (a.put o.dst v') w' := by
    intro w' v' h1 h2 hv hrel
    have e : heapAt ps base h0 tr (plus D i) ps.length = heapAt ps base h0 tr D ps.length := heap_agree fun k _ hk => plus_ne fun e => by
      subst e; rcases hk with hk | hk
      · exact hk h2
      · exact hk h1
    exact hput μ v' w' (Mu.le_refl μ) hv (by rw [e]; exact hrel) (by rw [e]; exact inv.bound) (fun j hj _ hDj => inv.free j hj hDj) (fun _ _ => rfl) (fun h' he => by rw [h2] at he; cases he)
  have hnd : ∀ {d : DO}, doOp o.op E = d → (∀ f, d ≠ .full f) → d ≠ .no → o.semAt b.roundOf a.eval = execOp a.eval o := by
    intro d hd hf hn
    refine Oper.semAt_eq _ _ _ fun c hc => ?_
    rw [hc] at hd
    exact hf _ hd.symm
  have hnext : h0.next ≤ (heapAt ps base h0 tr D ps.length).next := d_next inv.grown (fun k j hk hDk he hj hej => hD j k (by omega) hk (eff_anc hreg ht hk hj (.inl ⟨he, .inl hej⟩)) hDk) (Nat.le_refl _)
  cases hK with
  | skip hw e =>
    rw [← hwant] at hw
    have hw2 := want_rel (a := a) inv.tm hw
    have hst : step P (lone (b.atR a (.inRegion ops (ix :: rest) :: td)) cs w) = .next (lone (b.atR (a.put o.dst undef) (.inRegion ops rest :: td)) cs w) := by
      have := stepR_op_skip (P := P) (b := b) (a := a) (k := td) (cs := cs) (w := w) (ops := ops) (i := ix) (rest := rest) (by rw [ho]; simpa using hw2)
      rw [ho] at this
      exact this
    exact ⟨μ, _, w, .one hst, Step.refl O w, hstay w undef (by rw [e]) (by rw [e]) (by rw [e]; exact vr_undef μ) inv.rel⟩
  | pv hw hd hv e =>
    rw [← hwant] at hw
    have hw2 := want_rel (a := a) inv.tm hw
    rw [hd] at hdo
    have hv2 := hv
    rw [← show _ = _ from hdo] at hv2
    obtain ⟨v', w', h1, h2, h3⟩ := pv_ok (O := O) ok hd inv.tm hv2
    exact ⟨μ, _, w', .one (stR_value ho hw2 (by rw [hnd hd (fun _ h => by cases h) (fun h => by cases h)]; exact h1)), h3.step, hstay w' v' (by rw [e]) (by rw [e]) (by rw [e]; exact h2) (h3.rel _ inv.rel)⟩
  | rd0 hw hd hv e hadr =>
    rw [← hwant] at hw
    have hw2 := want_rel (a := a) inv.tm hw
    rw [hd] at hdo
    have hv2 := hv
    rw [rd_local hd _ _ (heapAt ps base h0 tr D ps.length) (fun b hb => by rw [hadr] at hb; cases hb), ← hdo.2] at hv2
    obtain ⟨v', h1, h2⟩ := rd_ok ok hd inv.tm inv.rel hv2
    exact ⟨μ, _, w, .one (stR_value ho hw2 (by rw [hnd hd (fun _ h => by cases h) (fun h => by cases h)]; exact h1)), Step.refl O w, hstay w v' (by rw [e]) (by rw [e]) (by rw [e]; exact h2) inv.rel⟩
  | rd hw hd hv e hadr hget hsn =>
    rw [← hwant] at hw
    have hw2 := want_rel (a := a) inv.tm hw
    rw [hd] at hdo
    have hv2 := hv
    have hg2 := read_ok hreg ht h00e hb0 hz hlo hne hD hDN inv.grown hi hDi (by rw [hix]; exact hanc) hPi (by rw [e]) hsn
    rw [rd_local hd _ _ (heapAt ps base h0 tr D ps.length) (fun b hb => by rw [hadr] at hb; cases hb; rw [hget, hg2]), ← hdo.2] at hv2
    obtain ⟨v', h1, h2⟩ := rd_ok ok hd inv.tm inv.rel hv2
    exact ⟨μ, _, w, .one (stR_value ho hw2 (by rw [hnd hd (fun _ h => by cases h) (fun h => by cases h)]; exact h1)), Step.refl O w, hstay w v' (by rw [e]) (by rw [e]) (by rw [e]; exact h2) inv.rel⟩
  | al hw hd hv e heff =>
    rename_i f ob g
    simp only at hw hd hv e heff
    rw [← hwant] at hw
    have hw2 := want_rel (a := a) inv.tm hw
    rw [hd] at hdo
    have hv2 := hv
    rw [← show _ = _ from hdo] at hv2
    have hfr := inv.free i hi hDi
    rw [hix] at hfr
    have hixN := hlo i hi
    rw [hix] at hixN
    obtain ⟨v', w', h1, p, h2, h3, h4⟩ := al_ok ok hd inv.tm inv.rel hfr hv2
    have hlate2 : ∀ k, i < k → (tr k).ef ≠ none → D k = false := by
      intro k hk hek
      cases hDk : D k with
      | false => rfl
      | true =>
        have := hD i k hi (hDN k hDk) (eff_anc hreg ht (hDN k hDk) hk (.inl ⟨hek, .inr (by rw [e]; simp)⟩)) hDk
        rw [hDi] at this; cases this
    obtain ⟨g1, g2, _⟩ := heap_plus (ps := ps) (base := base) (h0 := h0) (i := i) (o := ob) hne (by rw [e]) (by rw [e]) hDi hlate2 hi (Nat.le_refl _)
    rw [hix] at g1
    refine ⟨_, _, w', .one (stR_value ho hw2 (by rw [hnd hd (fun _ h => by cases h) (fun h => by cases h)]; exact h1)), h2, hput (μ.add (base + ix) p) v' w' (Mu.le_add hfr) (by rw [e]; exact h4) (h3.same g1) ?_ ?_ ?_ ?_⟩
    · intro c hc
      rw [g2] at hc
      have hne : c ≠ base + ix := by omega
      simp only [Mu.add, if_neg hne]
      exact inv.bound c hc
    · intro j hj hji hDj
      have hd := hne j i hj hi hji
      rw [hix] at hd
      have hne2 : base + idxAt ps j ≠ base + ix := by omega
      simp only [Mu.add, if_neg hne2]
      exact inv.free j hj hDj
    · intro c hc
      have hne : c ≠ base + ix := by omega
      simp only [Mu.add, if_neg hne]
    · intro h' he; rw [e] at he; cases he
  | full hw hd hv e hc1 hc2 hc3 =>
    rename_i f v h'
    simp only at hw hd hv e hc1 hc2 hc3
    rw [← hwant] at hw
    have hw2 := want_rel (a := a) inv.tm hw
    rw [hd] at hdo
    have hixN := hlo i hi
    rw [hix] at hixN
    have hei : (tr i).ef ≠ none := by rw [e]; simp
    -- behind it there are new blocks of cells alone
    have hEf : ∀ k, i ≤ k → k < ps.length → D k = true → (tr k).ef = none := by
      intro k hk hkN hDk
      cases hek : (tr k).ef with
      | none => rfl
      | some x =>
        rcases Nat.eq_or_lt_of_le hk with rfl | hk
        · rw [hDi] at hDk; cases hDk
        · have := hD i k hi hkN (eff_anc hreg ht hkN hk (.inl ⟨by rw [hek]; simp, .inl hei⟩)) hDk
          rw [hDi] at this; cases this
    have hEf2 : ∀ k, i + 1 ≤ k → k < ps.length → plus D i k = true → (tr k).ef = none := fun k hk hkN hDk => by
      rw [plus_ne (by omega : k ≠ i)] at hDk; exact hEf k (by omega) hkN hDk
    have hCells : ∀ k, i < k → k < ps.length → D k = true → ∀ x, (tr k).al = some x → isCells x = true := by
      intro k hk hkN hDk x hx
      cases hcx : isCells x with
      | true => rfl
      | false =>
        have := hD i k hi hkN (eff_anc hreg ht hkN hk (.inr ⟨x, hx, hcx, hei⟩)) hDk
        rw [hDi] at this; cases this
    have he2 : heapAt ps base h0 tr D i = heapAt ps base h0 tr yes i := heap_agree fun k hk hek => by
      have hm : bitAt m (idxAt ps k) = true := by
        rcases hek with hek | hek
        · exact hc1 _ (mem_effs hek hk)
        · exact hc2 _ (mem_allocs hek hk)
      rcases hanc k (by omega) (hMi _ hm) with h5 | h5
      · omega
      · exact h5
    have hbef : ∀ k, k < i → (tr k).ef ≠ none → D k = true := fun k hk hek => by
      rcases hanc k (by omega) (hMi _ (hc1 _ (mem_effs hek hk))) with h5 | h5
      · omega
      · exact h5
    have hnone : ∀ k, i ≤ k → k < ps.length → (heapAt ps base h0 tr D i).get (base + idxAt ps k) = none := fun k hk hkN => by
      rw [he2]; exact yes_none inv.grown hb0 hz hlo hne (Nat.le_of_lt hi) hbef k hk hkN
    obtain ⟨hnx, hhs⟩ := d_next_same (ps := ps) (base := base) (h0 := h0) (Nat.le_of_lt hi) hEf
    have hgetD : ∀ c, (∀ k, i ≤ k → k < ps.length → c ≠ base + idxAt ps k) → (heapAt ps base h0 tr D ps.length).get c = (heapAt ps base h0 tr D i).get c := fun c hc => d_get (Nat.le_of_lt hi) hEf hc
    have hless : ∀ c x, (heapAt ps base h0 tr D i).get c = some x → (heapAt ps base h0 tr D ps.length).get c = some x := fun c x hx => by
      rw [hgetD c fun k hk hkN e => by rw [e, hnone k hk hkN] at hx; cases hx]; exact hx
    have hXal : ∀ k, i ≤ k → k < ps.length → ∀ x, (heapAt ps base h0 tr D ps.length).get (base + idxAt ps k) = some x → isCells x = true := fun k hk hkN x hx => by
      have h5 := x_get hne hnone (Nat.le_of_lt hi) (Nat.le_refl _) hEf k hk hkN x hx
      have hDk : D k = true := by
        cases hh : D k with
        | true => rfl
        | false =>
          obtain ⟨q, _, hq, _⟩ := inv.rel.obj _ _ hx
          rw [inv.free k hkN hh] at hq; cases hq
      rcases Nat.eq_or_lt_of_le hk with rfl | hk
      · rw [hDi] at hDk; cases hDk
      · exact hCells k hk hkN hDk x h5
    -- the call may not touch those
    have hrelO : HRel E ⟨fun c => O c ∧ ∀ k x p, i ≤ k → k < ps.length → (heapAt ps base h0 tr D ps.length).get (base + idxAt ps k) = some x → μ (base + idxAt ps k) = some p → c ≠ p.blk, O.ro⟩ μ (heapAt ps base h0 tr D i) w.heap := by
      have r := inv.rel.less hless
      refine ⟨r.obj, r.inj, fun c x q hx how hq => ⟨r.own c x q hx how hq, fun k y p hk hkN hy hp e => ?_⟩, r.size, fun c hc => ⟨r.up c hc, fun k y p hk hkN hy hp e => ?_⟩, r.iter, r.ro, fun c hc hh => r.nro c hc hh.1⟩
      · have := inv.rel.inj _ _ _ _ _ _ (hless c x hx) hy (.inl how) hq hp e
        rw [this, hnone k hk hkN] at hx; cases hx
      · have := r.size _ _ hp; omega
    have hid : base + ix < (heapAt ps base h0 tr D i).next := by omega
    have hfr := inv.free i hi hDi
    rw [hix] at hfr
    have hst := full_step ok hfol (hcall _) (hround _) (rest := rest) (td := td) ho hw2 hd inv.tm hrelO (fun c hc => inv.bound c (by rw [hnx]; exact hc)) hfr hid (hr.mono inv.le) hq
    have hfe : ∀ id hh, f E (tmAt ps tm0 tr D ps.length) id hh = f E (tmAt ps tm0 tr yes i) id hh := hdo
    rw [hfe, he2] at hst
    have hv : (f E (tmAt ps tm0 tr yes i) (base + ix) (heapAt ps base h0 tr yes i)).bind (followA E rec (fun v h => .ret (v, h)) noDefer) = .ret (v, h') := hv
    rw [hv] at hst
    obtain ⟨μ', w', v', k1, k2, k3, k4, k5, k6, k7, k8⟩ := hst.of_ret
    simp only at k3 k4 k5 k7
    rw [← he2] at k2 k3
    have hid2 : base + ps.length ≤ (heapAt ps base h0 tr D i).next := by omega
    have hat : heapAt ps base h0 tr (plus D i) (i + 1) = h' := by simp only [heapAt, plus_self, e]
    obtain ⟨hnx2, hhs2⟩ := d_next_same (ps := ps) (base := base) (h0 := h0) (D := plus D i) (q := i + 1) hi hEf2
    have hnone2 : ∀ k, i < k → k < ps.length → h'.get (base + idxAt ps k) = none := fun k hk hkN => by
      have hd := hne k i hkN hi (by omega)
      have hl := hlo k hkN
      rw [hix] at hd
      exact k3.none _ (by omega) (by omega) (hnone k (by omega) hkN)
    -- what lies at the numbers behind is as before
    have hXsame : ∀ n, i < n → n ≤ ps.length → (∀ k, i < k → k < ps.length → (heapAt ps base h0 tr (plus D i) n).get (base + idxAt ps k) = (heapAt ps base h0 tr D n).get (base + idxAt ps k)) := by
      intro n
      induction n with
      | zero => intro h; omega
      | succ n ih =>
        intro hn hnN k hk hkN
        rcases Nat.lt_or_ge i n with h1 | h1
        · have ih := ih h1 (by omega) k hk hkN
          have hs1 := (d_next_same (ps := ps) (base := base) (h0 := h0) (tr := tr) (D := plus D i) (q := i + 1) (n := n) h1 fun k h2 h3 => hEf2 k h2 (by omega)).2
          have hs2 := (d_next_same (ps := ps) (base := base) (h0 := h0) (tr := tr) (D := D) (q := i) (n := n) (by omega) fun k h2 h3 => hEf k h2 (by omega)).2
          simp only [heapAt]
          rw [plus_ne (by omega : n ≠ i)]
          split
          · rename_i hh hDn hen
            rw [hEf n (by omega) (by omega) hDn] at hen
          · rename_i ob hDn hen han
            rw [put_get, put_get, ih, hs1, hs2, hat, k3.has]
          · exact ih
        · have : n = i := by omega
          subst this
          rw [hat]
          simp only [heapAt, hDi]
          rw [hnone2 k hk hkN, hnone k (by omega) hkN]
    have hget2 : ∀ c, (∀ k, i < k → k < ps.length → c ≠ base + idxAt ps k) → (heapAt ps base h0 tr (plus D i) ps.length).get c = h'.get c := fun c hc => by
      rw [d_get (q := i + 1) hi hEf2 fun k hk hkN => hc k hk hkN, hat]
    have hcase : ∀ c, (∃ k, i < k ∧ k < ps.length ∧ c = base + idxAt ps k) ∨ (∀ k, i < k → k < ps.length → c ≠ base + idxAt ps k) := fun c => by
      by_cases hh : ∃ k, i < k ∧ k < ps.length ∧ c = base + idxAt ps k
      · exact .inl hh
      · exact .inr fun k hk hkN e => hh ⟨k, hk, hkN, e⟩
    have hmu : ∀ c p q, μ c = some p → μ' c = some q → q = p := fun c p q hp hq => by rw [k1 c p hp] at hq; cases hq; rfl
    -- a block behind, as it lies
    have hX : ∀ k, i < k → k < ps.length → ∀ x, (heapAt ps base h0 tr (plus D i) ps.length).get (base + idxAt ps k) = some x → ∃ p ob, μ (base + idxAt ps k) = some p ∧ w.heap[p.blk]? = some ob ∧ OR' E μ p x ob ∧
        (heapAt ps base h0 tr D ps.length).get (base + idxAt ps k) = some x ∧ w'.heap[p.blk]? = some ob ∧ isCells x = true := by
      intro k hk hkN x hx
      rw [hXsame _ hi (Nat.le_refl _) k hk hkN] at hx
      obtain ⟨p, ob, hp, hob, hor⟩ := inv.rel.obj _ _ hx
      refine ⟨p, ob, hp, hob, hor, hx, ?_, hXal k (by omega) hkN x hx⟩
      rw [k6.keep p.blk fun hh => hh.2 k x p (by omega) hkN hx hp rfl]; exact hob
    -- a block behind is no one's that was at hand
    have hapart : ∀ k x q, i ≤ k → k < ps.length → (heapAt ps base h0 tr D ps.length).get (base + idxAt ps k) = some x → μ (base + idxAt ps k) = some q → isCells x = true → ∀ c2 x2 p2, h'.get c2 = some x2 → μ' c2 = some p2 → p2.blk ≠ q.blk := by
      intro k x q hk hkN q4 q1 q6 c2 x2 p2 hx2 hp2
      cases ho : x2.owned with
      | true => exact (k7.own c2 x2 p2 hx2 ho hp2).2 k x q hk hkN q4 q1
      | false =>
        cases x2 <;> first | cases ho | skip
        intro e
        have h1 := k7.ro c2 _ p2 hx2 hp2
        have h2 := inv.rel.own _ x q q4 (by cases x <;> first | rfl | cases q6) q1
        rw [← e] at h2
        exact inv.rel.nro _ h1 h2
    have hrel2 : HRel E O μ' (heapAt ps base h0 tr (plus D i) ps.length) w'.heap := by
      refine ⟨fun c x hx => ?_, fun c c2 x x2 p p2 hx hx2 how hp hp2 hbk => ?_, fun c x p hx how hp => ?_, k7.size, fun c hc => (k7.up c hc).1, fun c mm mods seen p pm es mo hx hxm hp hpm => ?_, fun c x p hx hp => ?_, inv.rel.nro⟩
      · rcases hcase c with ⟨k, hk, hkN, rfl⟩ | hc
        · obtain ⟨p, ob, q1, q2, q3, q4, q5, _⟩ := hX k hk hkN x hx
          exact ⟨p, ob, k1 _ _ q1, q5, q3.mono k1⟩
        · rw [hget2 c hc] at hx; exact k7.obj c x hx
      · rcases hcase c with ⟨k, hk, hkN, rfl⟩ | hc <;> rcases hcase c2 with ⟨k', hk', hkN', rfl⟩ | hc'
        · obtain ⟨q, ob, q1, q2, q3, q4, q5, _⟩ := hX k hk hkN x hx
          obtain ⟨q', ob', q1', q2', q3', q4', q5', _⟩ := hX k' hk' hkN' x2 hx2
          rw [hmu _ _ _ q1 hp, hmu _ _ _ q1' hp2] at hbk
          exact inv.rel.inj _ _ _ _ _ _ q4 q4' how q1 q1' hbk
        · obtain ⟨q, ob, q1, q2, q3, q4, q5, q6⟩ := hX k hk hkN x hx
          rw [hget2 c2 hc'] at hx2
          have := hapart k x q (by omega) hkN q4 q1 q6 c2 x2 p2 hx2 hp2
          rw [hmu _ _ _ q1 hp] at hbk
          exact absurd hbk.symm this
        · obtain ⟨q, ob, q1, q2, q3, q4, q5, q6⟩ := hX k' hk' hkN' x2 hx2
          rw [hget2 c hc] at hx
          have := hapart k' x2 q (by omega) hkN' q4 q1 q6 c x p hx hp
          rw [hmu _ _ _ q1 hp2] at hbk
          exact absurd hbk this
        · rw [hget2 c hc] at hx
          rw [hget2 c2 hc'] at hx2
          exact k7.inj c c2 x x2 p p2 hx hx2 how hp hp2 hbk
      · rcases hcase c with ⟨k, hk, hkN, rfl⟩ | hc
        · obtain ⟨q, ob, q1, q2, q3, q4, q5, _⟩ := hX k hk hkN x hx
          rw [hmu _ _ _ q1 hp]
          exact inv.rel.own _ x q q4 how q1
        · rw [hget2 c hc] at hx; exact (k7.own c x p hx how hp).1
      · rcases hcase c with ⟨k, hk, hkN, rfl⟩ | hc
        · obtain ⟨q, ob, q1, q2, q3, q4, q5, q6⟩ := hX k hk hkN _ hx
          cases q6
        · rcases hcase mm with ⟨k, hk, hkN, rfl⟩ | hc'
          · obtain ⟨q, ob, q1, q2, q3, q4, q5, q6⟩ := hX k hk hkN _ hxm
            cases q6
          · rw [hget2 c hc] at hx
            rw [hget2 mm hc'] at hxm
            exact k7.iter c mm mods seen p pm es mo hx hxm hp hpm
      · rcases hcase c with ⟨k, hk, hkN, rfl⟩ | hc
        · obtain ⟨q, ob, q1, q2, q3, q4, q5, q6⟩ := hX k hk hkN _ hx
          cases q6
        · rw [hget2 c hc] at hx; exact k7.ro c x p hx hp
    refine ⟨μ', _, w', k8, ⟨fun c hc => k6.keep c fun hh => hc hh.1, k6.size, k6.tape, k6.os, k6.output⟩, hput μ' v' w' k1 (by rw [e]; exact k5) hrel2 (fun c hc => k4 c (by rw [hnx2, hat] at hc; exact hc)) (fun j hj hji hDj => ?_)
      (fun c hc => k2 c (by omega) (by omega)) (fun hh heh => ?_)⟩
    · have hd := hne j i hj hi hji
      have hl := hlo j hj
      rw [hix] at hd
      rw [k2 (base + idxAt ps j) (by omega) (by omega)]; exact inv.free j hj hDj
    · rw [e] at heh; simp only [Option.some.injEq] at heh; subst heh; rw [← he2, hix]; exact k3

end
end Go.Ab
end
