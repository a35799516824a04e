/- Regions that draw their order. Outcomes that are alike but for the numbers of what was made: what the check says. Conditions: none. -/
import Derived.Test.YtbclmkfibgmgdaaGreatDoorRdXE
import Derived.Orders
section
namespace Go.Ab

theorem count_pos {l : List Bool} : l.count false = 0 → ∀ b ∈ l, b = true := by
  intro h b hb
  cases b with
  | true => rfl
  | false => rw [List.count_eq_zero] at h; exact absurd hb h

theorem count_set {l : List Bool} : ∀ {i : Nat} {n : Nat}, l[i]? = some false → l.count false = n + 1 → (l.set i true).count false = n := by
  induction l with
  | nil => intro i n h; simp at h
  | cons x l ih =>
    intro i n h hc
    cases i with
    | zero =>
      simp only [List.getElem?_cons_zero, Option.some.injEq] at h
      subst h
      simpa using hc
    | succ i =>
      simp only [List.getElem?_cons_succ] at h
      have hpos : 0 < l.count false := List.count_pos_iff.2 (List.mem_iff_getElem?.2 ⟨i, h⟩)
      cases x with
      | true =>
        simp only [List.set_cons_succ]
        have hc : l.count false = n + 1 := by simpa using hc
        have := ih h hc
        simpa using this
      | false =>
        simp only [List.set_cons_succ]
        have hc : l.count false = n := by simpa using hc
        obtain ⟨m, hm⟩ : ∃ m, n = m + 1 := ⟨n - 1, by omega⟩
        subst hm
        have := ih h hc
        simpa using this

section
variable {E : Env} {O : Own} {P : Program} {fc : FC} {b : Frame} {cs : List Frame} (ok : EnvOk E P) (hfol : P.follows .rangeFuncRecover = true) {rec : Rec} (hcall : ∀ O, CallOk E O P rec) (hround : ∀ O, RoundOk E O P rec)
  {ops : Array Oper} {ps : List Tr} (hreg : RegOk ops.toList ps) {base : Nat} {tm0 : T AV} {h0 h00 : Heap} {tr : Nat → TE} {μ0 : Mu} {ds : List ADef} (ht : TrOk E rec ops.toList ps base fc.nt tm0 h0 h00 tr ps.length)
  (h00e : ∀ c, h00.get c = h0.get c) (hb0 : base + ps.length ≤ h0.next) (hz : ∀ c, base ≤ c → h0.get c = none) (hhas : ∀ d, d < fc.nt → tm0.has d = true) (hr : RoundR μ0 fc.round b.roundOf) (hq : Quiet b.kind cs)
  {td : List Item}

def posD (ps : List Tr) (l : Array Bool) : Nat → Bool := fun p => Nat.blt p ps.length && l.getD (idxAt ps p) false

theorem posD_lt {ps : List Tr} {l : Array Bool} {p : Nat} (h : p < ps.length) : posD ps l p = l.getD (idxAt ps p) false := by
  unfold posD; rw [(blt_iff _ _).2 h]; rfl
theorem posD_true {ps : List Tr} {l : Array Bool} {p : Nat} (h : posD ps l p = true) : p < ps.length ∧ l.getD (idxAt ps p) false = true := by
  unfold posD at h
  rw [Bool.and_eq_true, blt_iff] at h
  exact h

theorem idx_at {ps : List Tr} {p : Nat} {t : Tr} (h : ps[p]? = some t) : idxAt ps p = t.i := by simp [idxAt, h]
theorem idx_ne {l : List Oper} {ps : List Tr} (hreg : RegOk l ps) : ∀ j k, j < ps.length → k < ps.length → j ≠ k → idxAt ps j ≠ idxAt ps k := by
  intro j k hj hk hjk
  have h1 : ps[j]? = some ps[j] := List.getElem?_eq_getElem hj
  have h2 : ps[k]? = some ps[k] := List.getElem?_eq_getElem hk
  rw [idx_at h1, idx_at h2]
  rcases Nat.lt_or_gt_of_ne hjk with h | h
  · exact (hreg.pair j k _ _ h h1 h2).1
  · exact (hreg.pair k j _ _ h h2 h1).1.symm
theorem idx_lo {l : List Oper} {ps : List Tr} (hreg : RegOk l ps) : ∀ k, k < ps.length → idxAt ps k < ps.length := by
  intro k hk
  have h1 : ps[k]? = some ps[k] := List.getElem?_eq_getElem hk
  rw [idx_at h1, hreg.len]
  exact (List.getElem?_eq_some_iff.1 (hreg.at_ k _ h1).1).1

include ok hfol hcall hround hreg ht h00e hb0 hz hhas hr hq

theorem sched_ok : ∀ (fuel t : Nat) (listed : Array Bool) (μ : Mu) (a : Act) (w : World), listed.size = ops.size → listed.toList.count false = fuel → Closed ops.toList (fun j => listed.getD j false = true) →
    Inv E O fc ps base tm0 h0 tr μ0 ds (posD ps listed) μ a w →
    ∃ D μ' a' w', (∀ j, j < ps.length → D j = true) ∧ Steps P (lone (b.atR a (.inRegion ops (Region.linearise.go .any ops fuel t listed []) :: td)) cs w) (lone (b.atR a' td) cs w') ∧ Step O w w' ∧
      Inv E O fc ps base tm0 h0 tr μ0 ds D μ' a' w'
  | 0, t, listed, μ, a, w, hs, hc, hcl, inv => by
    refine ⟨_, μ, a, w, fun j hj => ?_, ?_, Step.refl O w, inv⟩
    · rw [posD_lt hj]
      have hlt : idxAt ps j < listed.size := by rw [hs]; have := idx_lo hreg j hj; rw [hreg.len] at this; simpa using this
      have := count_pos hc (listed[idxAt ps j]) (by simp)
      simp [hlt, this]
    · simp only [Region.linearise.go, List.reverse_nil]
      exact .one stepR_region_end
  | fuel + 1, t, listed, μ, a, w, hs, hc, hcl, inv => by
    -- there is one that may be next
    have hex : ∃ j, j ∈ Region.ready .any ops listed := by
      have hun : ∃ j, j < listed.size ∧ listed.getD j true = false := by
        have hpos : 0 < listed.toList.count false := by omega
        have hmem := List.count_pos_iff.1 hpos
        obtain ⟨j, hj⟩ := List.mem_iff_getElem?.1 hmem
        have hlt : j < listed.size := by
          have := (List.getElem?_eq_some_iff.1 hj).1
          simpa using this
        refine ⟨j, hlt, ?_⟩
        have : listed[j] = false := by
          have := (List.getElem?_eq_some_iff.1 hj).2
          simpa using this
        simp [hlt, this]
      have hmin : ∀ n, ∀ j, j ≤ n → j < listed.size → listed.getD j true = false → ∃ i, i < listed.size ∧ listed.getD i true = false ∧ ∀ k, k < i → listed.getD k true = true := by
        intro n
        induction n with
        | zero =>
          intro j hj hlt hf
          exact ⟨j, hlt, hf, fun k hk => by omega⟩
        | succ n ih =>
          intro j hj hlt hf
          by_cases hk : ∃ k, k < j ∧ listed.getD k true = false
          · obtain ⟨k, h1, h2⟩ := hk
            exact ih k (by omega) (by omega) h2
          · refine ⟨j, hlt, hf, fun k hkj => ?_⟩
            cases hh : listed.getD k true with
            | true => rfl
            | false => exact absurd ⟨k, hkj, hh⟩ hk
      obtain ⟨j, hj1, hj2⟩ := hun
      obtain ⟨i, h1, h2, h3⟩ := hmin j j (Nat.le_refl _) hj1 hj2
      refine ⟨i, mem_ready.2 ⟨h2, ops[i]'(by omega), by simp [show i < ops.size by omega], fun e he hbd => ?_⟩⟩
      have hlt : e.on < i := by
        obtain ⟨p, t, hp, hpi⟩ := hreg.all i (by simp; omega)
        obtain ⟨g1, _, g3⟩ := hreg.at_ p t hp
        rw [hpi] at g1 g3
        have : ops.toList[i]? = some (ops[i]'(by omega)) := by simp [show i < ops.size by omega]
        rw [this] at g1
        simp only [Option.some.injEq] at g1
        exact g3 e (by rw [← g1]; simpa using he) hbd
      have := h3 e.on hlt
      have hb2 : e.on < listed.size := by omega
      simp [hb2] at this ⊢
      exact this
    simp only [Region.linearise.go]
    have key : ∀ (m : Option Nat), (Region.ready .any ops listed)[t % (Region.ready .any ops listed).length]? = m → ∃ i, m = some i ∧ i ∈ Region.ready .any ops listed := by
      intro m hm
      cases m with
      | none =>
        obtain ⟨j, hj⟩ := hex
        have hlen : 0 < (Region.ready .any ops listed).length := List.length_pos_of_mem hj
        have := Nat.mod_lt t hlen
        rw [List.getElem?_eq_none_iff] at hm
        omega
      | some i => exact ⟨i, rfl, List.mem_of_getElem? hm⟩
    obtain ⟨i, hi, hir⟩ := key _ rfl
    obtain ⟨hun, o, hoi, hedge⟩ := mem_ready.1 hir
    have hlt : i < ops.size := (Array.getElem?_eq_some_iff.1 hoi).1
    have hls : i < listed.size := by omega
    have hfi : listed[i] = false := by simpa [hls] using hun
    have hDi : listed.getD i false = false := by simp [hls, hfi]
    obtain ⟨p, tp, hp, hpi⟩ := hreg.all i (by simpa using hlt)
    have hpN : p < ps.length := (List.getElem?_eq_some_iff.1 hp).1
    have hidx : idxAt ps p = i := by rw [idx_at hp, hpi]
    have hne := idx_ne hreg
    have hset : ∀ j, (listed.setIfInBounds i true).getD j false = (Nat.beq j i || listed.getD j false) := by
      intro j
      by_cases e : j = i
      · subst e; simp [hls]
      · have : Nat.beq j i = false := by
          cases hh : Nat.beq j i with
          | false => rfl
          | true => exact absurd (Nat.eq_of_beq_eq_true hh) e
        rw [this]; simp [Array.getElem?_setIfInBounds_ne (Ne.symm e)]
    have hcl2 : Closed ops.toList fun j => (listed.setIfInBounds i true).getD j false = true := fun j o2 hj ho2 e he hbd => by
      show (listed.setIfInBounds i true).getD e.on false = true
      have hj : (listed.setIfInBounds i true).getD j false = true := hj
      rw [hset, Bool.or_eq_true] at hj ⊢
      rcases hj with hj | hj
      · have := Nat.eq_of_beq_eq_true hj
        subst this
        have : ops[j]? = some o2 := by rw [← Array.getElem?_toList]; exact ho2
        rw [hoi] at this; cases this
        exact .inr (hedge e (by simpa using he) hbd)
      · exact .inr (hcl j o2 hj ho2 e he hbd)
    obtain ⟨μ1, a1, w1, s1, s2, s3⟩ := exec_ok ok hfol hcall hround hreg ht h00e hb0 hz hhas hr hq (idx_lo hreg) hne (td := td) (D := posD ps listed) (fun j k hj hk hanc hDk => by
        rw [posD_lt hj]; exact hanc _ hcl (posD_true hDk).2) (fun j hj => (posD_true hj).1) (i := p) hpN (by rw [posD_lt hpN, hidx]; exact hDi)
      (fun k hk hanc => by
        rw [hidx] at hanc
        have hh := hanc _ hcl2 (by show (listed.setIfInBounds i true).getD i false = true; rw [hset]; simp)
        have hh : (listed.setIfInBounds i true).getD (idxAt ps k) false = true := hh
        rw [hset, Bool.or_eq_true] at hh
        rcases hh with hh | hh
        · have e := Nat.eq_of_beq_eq_true hh
          by_cases ekp : k = p
          · exact .inl ekp
          · exact absurd (e.trans hidx.symm) (hne k p hk hpN ekp)
        · exact .inr (by rw [posD_lt hk]; exact hh)) inv (Region.linearise.go .any ops fuel (t / (Region.ready .any ops listed).length) (listed.setIfInBounds i true) [])
    rw [hidx] at s1
    have hfun : posD ps (listed.setIfInBounds i true) = plus (posD ps listed) p := by
      funext k
      rcases Nat.lt_or_ge k ps.length with hk | hk
      · rw [posD_lt hk, hset]
        by_cases ekp : k = p
        · subst ekp; rw [plus_self, hidx]; simp
        · rw [plus_ne ekp, posD_lt hk]
          have : Nat.beq (idxAt ps k) i = false := by
            cases hh : Nat.beq (idxAt ps k) i with
            | false => rfl
            | true => exact absurd ((Nat.eq_of_beq_eq_true hh).trans hidx.symm) (hne k p hk hpN ekp)
          rw [this]; rfl
      · rw [plus_ne (by omega : k ≠ p)]
        have hb : Nat.blt k ps.length = false := by
          cases hh : Nat.blt k ps.length with
          | false => rfl
          | true => have := (blt_iff _ _).1 hh; omega
        unfold posD; rw [hb]; rfl
    obtain ⟨D, μ2, a2, w2, r1, r2, r3, r4⟩ := sched_ok fuel (t / (Region.ready .any ops listed).length) (listed.setIfInBounds i true) μ1 a1 w1 (by simpa using hs) (by
        rw [Array.toList_setIfInBounds]
        exact count_set (by rw [Array.getElem?_toList]; simp [hls, hfi]) hc) hcl2 (by rw [hfun]; exact s3)
    refine ⟨D, μ2, a2, w2, r1, ?_, s2.trans r3, r4⟩
    change Steps P (lone (b.atR a (.inRegion ops (match (Region.ready .any ops listed)[t % (Region.ready .any ops listed).length]? with
      | some i => Region.linearise.go .any ops fuel (t / (Region.ready .any ops listed).length) (listed.setIfInBounds i true) [i]
      | none => [].reverse) :: td)) cs w) _
    rw [hi]
    simp only []
    rw [linearise_go_acc, List.reverse_singleton, List.singleton_append]
    exact s1.trans r2

end

theorem tm_none {ps : List Tr} {tm0 : T AV} {tr : Nat → TE} {D : Nat → Bool} (h : ∀ k, D k = false) : ∀ n, tmAt ps tm0 tr D n = tm0
  | 0 => rfl
  | n + 1 => by simp only [tmAt, h n]; exact tm_none h n
theorem heap_none {ps : List Tr} {base : Nat} {h0 : Heap} {tr : Nat → TE} {D : Nat → Bool} (h : ∀ k, D k = false) : ∀ n, heapAt ps base h0 tr D n = h0
  | 0 => rfl
  | n + 1 => by simp only [heapAt, h n]; exact heap_none h n
theorem tm_all {ps : List Tr} {tm0 : T AV} {tr : Nat → TE} {D : Nat → Bool} : ∀ n, (∀ k, k < n → D k = true) → tmAt ps tm0 tr D n = tmAt ps tm0 tr yes n
  | 0, _ => rfl
  | n + 1, h => by simp only [tmAt, h n (Nat.lt_succ_self n), yes, tm_all n fun k hk => h k (by omega)]

theorem grow_yes {ps : List Tr} {base : Nat} {t : T (Option AObj)} {l : List Nat} {N : Nat} {tr : Nat → TE} {D : Nat → Bool} (hD : ∀ k, k < N → D k = true) (g : Grown ps base ⟨t, base + N, l⟩ tr D N) :
    ∀ n, n ≤ N → Grow ⟨t, base, l⟩ (heapAt ps base ⟨t, base + N, l⟩ tr yes n)
  | 0, _ => ⟨Nat.le_add_right _ _, fun _ h => h, fun _ _ => rfl, fun _ _ h => h, fun _ => rfl⟩
  | n + 1, hn => by
    have ih := grow_yes hD g n (by omega)
    have hnx := yes_next g (n := n) (by omega) fun k hk _ => hD k (by omega)
    simp only [heapAt, yes]
    split
    · rename_i h' _ he
      have e := g.at_ n (by omega) (hD n (by omega)) h' he
      refine ⟨Nat.le_trans ih.next e.next, fun c hc => e.log c (ih.log c hc), fun c hc => (e.same c hc).trans (ih.same c fun hh => hc (e.log c hh)), fun c hc hh => e.none c ?_ ?_ (ih.none c hc hh), fun c => (e.has c).trans (ih.has c)⟩
      · have hc : c < base := hc
        have : base + N ≤ (heapAt ps base ⟨t, base + N, l⟩ tr yes n).next := hnx
        omega
      · have hc : c < base := hc
        omega
    · rename_i o _ _ _
      refine ⟨ih.next, fun c hc => List.mem_cons_of_mem _ (ih.log c hc), fun c hc => ?_, fun c hc hh => ?_, fun c => (T.has_set _ _ c _).trans (ih.has c)⟩
      · rw [Heap.log_put, List.mem_cons, not_or] at hc
        rw [Heap.get_put_ne _ _ _ _ hc.1]; exact ih.same c hc.2
      · have hc2 : c < base := hc
        rw [Heap.get_put_ne _ _ _ _ (by omega)]; exact ih.none c hc hh
    · exact ih

/-- A REGION THAT DRAWS ITS ORDER. -/
theorem draw_ok {E : Env} {O : Own} {P : Program} (ok : EnvOk E P) (hfol : P.follows .rangeFuncRecover = true) {rec : Rec} (hcall : ∀ O, CallOk E O P rec) (hround : ∀ O, RoundOk E O P rec) : DrawOk E O P rec := by
  intro fc b cs k hk id ops td tm ds h μ a w hchk htd s
  have hreg := regChk_ok hchk
  obtain ⟨t, n, l⟩ := h
  have hlen : Nat.add n (len ops.toList) = n + (region ops.toList (E.ord fc.fn id)).length := by rw [len_eq, hreg.len]; rfl
  have hord : ordered (trs ops.toList 0 (.full 0 8)) (E.ord fc.fn id) = region ops.toList (E.ord fc.fn id) := rfl
  have hz : ∀ c, n ≤ c → t.get none c = none := by
    intro c hc
    cases hg : t.get none c with
    | none => rfl
    | some o => obtain ⟨p, _, hp, _⟩ := s.rel.obj c o hg; rw [s.bound c hc] at hp; cases hp
  simp only [sDraw]
  rw [hlen, hord]
  generalize region ops.toList (E.ord fc.fn id) = ps at hreg hlen hord ⊢
  refine draw_trace (ps := ps) (nt := fc.nt) (L := ops.toList) (base := n) (tm0 := tm) (h0 := ⟨t, n + ps.length, l⟩) (h00 := ⟨t, n, l⟩) ?_ ps 0 (fun _ => ⟨undefA, none, none, none⟩) _
    (fun j => by simp) (by simp) (fun j hj => by omega) ⟨rfl, rfl, rfl, rfl, rfl, rfl⟩
  intro tr s' ht hs
  obtain ⟨tm', h', e1, e2, e3, e4⟩ := s'
  obtain ⟨q1, q2, _, _, _, _⟩ := hs
  simp only at q1 q2
  subst q1 q2
  simp only [behindDraw]
  have hinv : Inv E O fc ps n tm ⟨t, n + ps.length, l⟩ tr μ ds (posD ps (Array.replicate ops.size false)) μ a { w with drawn := w.drawn + 1 } := by
    have hf : ∀ k, posD ps (Array.replicate ops.size false) k = false := by
      intro k
      suffices hsuf : (Array.replicate ops.size false).getD (idxAt ps k) false = false by unfold posD; rw [hsuf]; simp
      simp only [Array.getD_eq_getD_getElem?]
      cases hh : (Array.replicate ops.size false)[idxAt ps k]? with
      | none => rfl
      | some v =>
        obtain ⟨h1, h2⟩ := Array.getElem?_eq_some_iff.1 hh
        simp at h2; simp [h2]
    refine ⟨by rw [tm_none hf]; exact s.tm, s.nt, s.ds, by rw [heap_none hf]; exact s.rel.same fun _ => rfl, by rw [heap_none hf]; exact bound_le s.bound (Nat.le_add_right _ _), fun j hj _ => s.bound _ (Nat.le_add_right _ _),
      Mu.le_refl μ, fun _ _ => rfl, ⟨fun k hk hDk => absurd hDk (Bool.eq_false_iff.1 (hf k))⟩⟩
  obtain ⟨D, μ', a', w', r1, r2, r3, r4⟩ := sched_ok ok hfol hcall hround hreg ht (fun _ => rfl) (Nat.le_refl _) hz (fun d hd => s.tm.has d (by rw [s.nt]; exact hd)) s.round s.quiet (td := td) ops.size
    (w.tape w.drawn (.order b.fn id)) (Array.replicate ops.size false) μ a { w with drawn := w.drawn + 1 } (by simp) (by simp) (fun j o hj _ e _ _ => by
      simp only [Array.getD_eq_getD_getElem?] at hj
      cases hh : (Array.replicate ops.size false)[j]? with
      | none => rw [hh] at hj; cases hj
      | some v =>
        obtain ⟨h1, h2⟩ := Array.getElem?_eq_some_iff.1 hh
        simp at h2; rw [hh] at hj; simp [h2] at hj) hinv
  have hD : heapAt ps n ⟨t, n + ps.length, l⟩ tr D ps.length = heapAt ps n ⟨t, n + ps.length, l⟩ tr yes ps.length := heap_agree fun k hk _ => r1 k hk
  have htmD : tmAt ps tm tr D ps.length = tmAt ps tm tr yes ps.length := tm_all _ r1
  obtain ⟨i1, i2, i3, i4, i5, i6, i7, i8, i9⟩ := r4
  rw [hD] at i4 i5
  rw [htmD] at i1
  have hstep : step P (lone (b.atR a (.code (.region id ops true) :: td)) cs w) = .next (lone (b.atR a (.inRegion ops (Region.linearise.go .any ops ops.size (w.tape w.drawn (.order b.fn id)) (Array.replicate ops.size false) []) :: td)) cs { w with drawn := w.drawn + 1 }) := by
    have := stepR_region_draw (P := P) (b := b) (a := a) (k := td) (cs := cs) (w := w) (ops := ops) (id := id)
    rw [this]
    simp only [Region.schedule, ok.mixed, Bool.true_or, if_true]
    rfl
  refine leadsOf (h1 := heapAt ps n ⟨t, n + ps.length, l⟩ tr yes ps.length) (μ1 := μ') ⟨i7, i8, grow_yes r1 i9 _ (Nat.le_refl _)⟩ (Step.trans (w1 := { w with drawn := w.drawn + 1 }) ⟨fun _ _ => rfl, Nat.le_refl _, rfl, rfl, rfl⟩ r3) (.head hstep r2) ?_
  exact hk td _ ds _ μ' a' w' htd ⟨s.fn, s.round.mono i7, i1, i2, i3, i4, i5, s.quiet, s.stack⟩

end Go.Ab
end
section
namespace Go.Ab

/-- two numbers that stand for each other -/
def RefI (n0 : Nat) (q : List (Nat × Nat)) (a b : Nat) : Prop := (a < n0 ∧ a = b) ∨ (n0 ≤ a ∧ n0 ≤ b ∧ (a, b) ∈ q)

mutual
inductive VI (n0 : Nat) (q : List (Nat × Nat)) : AV → AV → Prop
  | bool (b : Bool) : VI n0 q (.bool b) (.bool b)
  | int (k : IntKind) (n : Int) : VI n0 q (.int k n) (.int k n)
  | str (s : List Nat) : VI n0 q (.str s) (.str s)
  | ptr {a b o : Nat} : RefI n0 q a b → VI n0 q (.ptr a o) (.ptr b o)
  | nilPtr : VI n0 q .nilPtr .nilPtr
  | slice {a b o n c x : Nat} : RefI n0 q a b → VI n0 q (.slice a o n c x) (.slice b o n c x)
  | nilSlice : VI n0 q .nilSlice .nilSlice
  | map {a b : Nat} : RefI n0 q a b → VI n0 q (.map a) (.map b)
  | nilMap : VI n0 q .nilMap .nilMap
  | func {f : FuncId} {a b c d : List AV} : VIL n0 q a c → VIL n0 q b d → VI n0 q (.func f a b) (.func f c d)
  | nilFunc : VI n0 q .nilFunc .nilFunc
  | iface {t : TypeId} {v w : AV} : VI n0 q v w → VI n0 q (.iface t v) (.iface t w)
  | nilIface : VI n0 q .nilIface .nilIface
  | agg {a b : List AV} : VIL n0 q a b → VI n0 q (.agg a) (.agg b)
  | tup {a b : List AV} : VIL n0 q a b → VI n0 q (.tup a) (.tup b)
inductive VIL (n0 : Nat) (q : List (Nat × Nat)) : List AV → List AV → Prop
  | nil : VIL n0 q [] []
  | cons {a b : AV} {l r : List AV} : VI n0 q a b → VIL n0 q l r → VIL n0 q (a :: l) (b :: r)
end
inductive EI (n0 : Nat) (q : List (Nat × Nat)) : List (AV × AV) → List (AV × AV) → Prop
  | nil : EI n0 q [] []
  | cons {k v w : AV} {l es : List (AV × AV)} : lookupE k es = some (some w) → VI n0 q v w → EI n0 q l (removeE k es) → EI n0 q ((k, v) :: l) es
inductive OI (n0 : Nat) (q : List (Nat × Nat)) : AObj → AObj → Prop
  | cells {c d : List AV} {e : TypeId} {o : Bool} : VIL n0 q c d → OI n0 q (.cells c e o) (.cells d e o)
  | map {es es2 : List (AV × AV)} {m : Nat} : EI n0 q es es2 → OI n0 q (.map es m) (.map es2 m)
  | def0 : OI n0 q (.deferred false []) (.deferred false [])
  | def1 : OI n0 q (.deferred true []) (.deferred true [])

theorem RefI.mono {n0 : Nat} {q q2 : List (Nat × Nat)} (hs : ∀ p ∈ q, p ∈ q2) {a b : Nat} (h : RefI n0 q a b) : RefI n0 q2 a b := by
  rcases h with h | ⟨h1, h2, h3⟩
  · exact .inl h
  · exact .inr ⟨h1, h2, hs _ h3⟩
mutual
theorem VI.mono {n0 : Nat} {q q2 : List (Nat × Nat)} (hs : ∀ p ∈ q, p ∈ q2) : ∀ {a b : AV}, VI n0 q a b → VI n0 q2 a b
  | _, _, .bool b => .bool b
  | _, _, .int k n => .int k n
  | _, _, .str s => .str s
  | _, _, .ptr h => .ptr (RefI.mono hs h)
  | _, _, .nilPtr => .nilPtr
  | _, _, .slice h => .slice (RefI.mono hs h)
  | _, _, .nilSlice => .nilSlice
  | _, _, .map h => .map (RefI.mono hs h)
  | _, _, .nilMap => .nilMap
  | _, _, .func a b => .func (VIL.mono hs a) (VIL.mono hs b)
  | _, _, .nilFunc => .nilFunc
  | _, _, .iface h => .iface (VI.mono hs h)
  | _, _, .nilIface => .nilIface
  | _, _, .agg h => .agg (VIL.mono hs h)
  | _, _, .tup h => .tup (VIL.mono hs h)
theorem VIL.mono {n0 : Nat} {q q2 : List (Nat × Nat)} (hs : ∀ p ∈ q, p ∈ q2) : ∀ {a b : List AV}, VIL n0 q a b → VIL n0 q2 a b
  | _, _, .nil => .nil
  | _, _, .cons h l => .cons (VI.mono hs h) (VIL.mono hs l)
end
theorem EI.mono {n0 : Nat} {q q2 : List (Nat × Nat)} (hs : ∀ p ∈ q, p ∈ q2) : ∀ {a b : List (AV × AV)}, EI n0 q a b → EI n0 q2 a b
  | _, _, .nil => .nil
  | _, _, .cons h v l => .cons h (VI.mono hs v) (EI.mono hs l)
theorem OI.mono {n0 : Nat} {q q2 : List (Nat × Nat)} (hs : ∀ p ∈ q, p ∈ q2) {a b : AObj} (h : OI n0 q a b) : OI n0 q2 a b := by
  cases h with
  | cells h => exact .cells (VIL.mono hs h)
  | map h => exact .map (EI.mono hs h)
  | def0 => exact .def0
  | def1 => exact .def1

/-- the state of the check -/
structure IsoOk (s : Iso) : Prop where
  pair : ∀ a b, (a, b) ∈ s.pairs → s.n0 ≤ a ∧ s.n0 ≤ b ∧ s.fwd.get none a = some b ∧ s.bwd.get none b = some a
  fwd : ∀ a b, s.fwd.get none a = some b → (a, b) ∈ s.pairs
  bwd : ∀ a b, s.bwd.get none b = some a → (a, b) ∈ s.pairs
  has1 : ∀ k, k < 131072 → s.fwd.has k = true
  has2 : ∀ k, k < 131072 → s.bwd.has k = true

structure Ext (s s2 : Iso) : Prop where
  n0 : s2.n0 = s.n0
  pairs : ∀ p ∈ s.pairs, p ∈ s2.pairs
  new : ∀ p ∈ s2.pairs, p ∈ s.pairs ∨ p ∈ s2.todo
  todo : ∀ p ∈ s.todo, p ∈ s2.todo

theorem Ext.refl (s : Iso) : Ext s s := ⟨rfl, fun _ h => h, fun _ h => .inl h, fun _ h => h⟩
theorem Ext.trans {s s1 s2 : Iso} (a : Ext s s1) (b : Ext s1 s2) : Ext s s2 :=
  ⟨b.n0.trans a.n0, fun p h => b.pairs p (a.pairs p h), fun p h => (b.new p h).elim (fun h => (a.new p h).imp id (b.todo p)) .inr, fun p h => b.todo p (a.todo p h)⟩

theorem bif_some {α : Type} {b : Bool} {y : Option α} {v : α} (h : (bif b then y else none) = some v) : b = true ∧ y = some v := by
  cases b with
  | false => cases h
  | true => exact ⟨rfl, h⟩

theorem isoNew_ok {s s2 : Iso} {a b : Nat} (h : isoNew s a b = some s2) (hs : IsoOk s) (ha : s.n0 ≤ a) (hb : s.n0 ≤ b) (hf : s.fwd.get none a = none) : IsoOk s2 ∧ Ext s s2 ∧ RefI s.n0 s2.pairs a b := by
  obtain ⟨n0, fwd, bwd, pairs, todo⟩ := s
  simp only [isoNew] at h
  obtain ⟨h1, h2⟩ := bif_some h
  rw [Bool.and_eq_true, blt_iff, blt_iff] at h1
  simp only at ha hb hf
  split at h2
  · cases h2
  · rename_i hbn
    simp only [Option.some.injEq] at h2
    subst h2
    have hf2 : ∀ x, (fwd.set a (some b)).get none x = if x = a then some b else fwd.get none x := by
      intro x
      by_cases e : x = a
      · subst e; rw [T.get_set_eq, if_pos (hs.has1 x h1.1), if_pos rfl]
      · rw [T.get_set_ne _ _ _ _ _ e, if_neg e]
    have hb2 : ∀ x, (bwd.set b (some a)).get none x = if x = b then some a else bwd.get none x := by
      intro x
      by_cases e : x = b
      · subst e; rw [T.get_set_eq, if_pos (hs.has2 x h1.2), if_pos rfl]
      · rw [T.get_set_ne _ _ _ _ _ e, if_neg e]
    refine ⟨⟨fun x y hxy => ?_, fun x y hxy => ?_, fun x y hxy => ?_, fun k hk => by simp only [T.has_set]; exact hs.has1 k hk, fun k hk => by simp only [T.has_set]; exact hs.has2 k hk⟩,
      ⟨rfl, fun p hp => List.mem_cons_of_mem _ hp, fun p hp => ?_, fun p hp => List.mem_cons_of_mem _ hp⟩, .inr ⟨ha, hb, List.mem_cons_self⟩⟩
    · simp only [hf2, hb2]
      rcases List.mem_cons.1 hxy with e | hxy
      · cases e
        exact ⟨ha, hb, by rw [if_pos rfl], by rw [if_pos rfl]⟩
      · obtain ⟨k1, k2, k3, k4⟩ := hs.pair x y hxy
        simp only at k1 k2 k3 k4
        have e1 : x ≠ a := fun e => by subst e; rw [hf] at k3; cases k3
        have e2 : y ≠ b := fun e => by subst e; rw [hbn] at k4; cases k4
        exact ⟨k1, k2, by rw [if_neg e1]; exact k3, by rw [if_neg e2]; exact k4⟩
    · simp only [hf2] at hxy
      by_cases e : x = a
      · rw [if_pos e] at hxy; cases hxy; subst e; exact List.mem_cons_self
      · rw [if_neg e] at hxy; exact List.mem_cons_of_mem _ (hs.fwd x y hxy)
    · simp only [hb2] at hxy
      by_cases e : y = b
      · rw [if_pos e] at hxy; cases hxy; subst e; exact List.mem_cons_self
      · rw [if_neg e] at hxy; exact List.mem_cons_of_mem _ (hs.bwd x y hxy)
    · rcases List.mem_cons.1 hp with e | hp
      · subst e; exact .inr List.mem_cons_self
      · exact .inl hp

theorem isoB_ok {s s2 : Iso} {a b : Nat} (h : isoB s a b = some s2) (hs : IsoOk s) : IsoOk s2 ∧ Ext s s2 ∧ RefI s.n0 s2.pairs a b := by
  obtain ⟨n0, fwd, bwd, pairs, todo⟩ := s
  simp only [isoB] at h
  cases h1 : Nat.blt a n0 with
  | true =>
    rw [h1] at h
    simp only [cond_true] at h
    obtain ⟨h2, h3⟩ := bif_some h
    simp only [Option.some.injEq] at h3
    subst h3
    exact ⟨hs, .refl _, .inl ⟨(blt_iff _ _).1 h1, Nat.eq_of_beq_eq_true h2⟩⟩
  | false =>
    rw [h1] at h
    simp only [cond_false] at h
    have ha : n0 ≤ a := by
      rcases Nat.lt_or_ge a n0 with h2 | h2
      · rw [(blt_iff _ _).2 h2] at h1; cases h1
      · exact h2
    cases h2 : Nat.blt b n0 with
    | true => rw [h2] at h; cases h
    | false =>
      rw [h2] at h
      simp only [cond_false] at h
      have hb : n0 ≤ b := by
        rcases Nat.lt_or_ge b n0 with h3 | h3
        · rw [(blt_iff _ _).2 h3] at h2; cases h2
        · exact h3
      split at h
      · rename_i b2 hf
        obtain ⟨h3, h4⟩ := bif_some h
        simp only [Option.some.injEq] at h4
        subst h4
        have : b2 = b := Nat.eq_of_beq_eq_true h3
        subst this
        exact ⟨hs, .refl _, .inr ⟨ha, hb, hs.fwd a b2 hf⟩⟩
      · rename_i hf
        exact isoNew_ok h hs ha hb hf

def IsoR (s s2 : Iso) (X : List (Nat × Nat) → Prop) : Prop := IsoOk s2 ∧ Ext s s2 ∧ X s2.pairs

mutual
theorem isoV_ok : ∀ (a b : AV) (s s2 : Iso), isoV s a b = some s2 → IsoOk s → IsoR s s2 fun q => VI s.n0 q a b
  | .bool x, .bool y, s, s2, h, hs => by
    simp only [isoV] at h
    obtain ⟨h1, h2⟩ := bif_some h
    cases h2; rw [(boolEq_iff _ _).1 h1]; exact ⟨hs, .refl _, .bool _⟩
  | .int k x, .int l y, s, s2, h, hs => by
    simp only [isoV] at h
    obtain ⟨h1, h2⟩ := bif_some h
    rw [Bool.and_eq_true, decide_eq_true_eq, intEq_iff] at h1
    cases h2; rw [h1.1, h1.2]; exact ⟨hs, .refl _, .int _ _⟩
  | .str x, .str y, s, s2, h, hs => by
    simp only [isoV] at h
    obtain ⟨h1, h2⟩ := bif_some h
    cases h2; rw [(natsEq_iff _ _).1 h1]; exact ⟨hs, .refl _, .str _⟩
  | .ptr a o, .ptr b p, s, s2, h, hs => by
    simp only [isoV] at h
    obtain ⟨h1, h2⟩ := bif_some h
    obtain ⟨k1, k2, k3⟩ := isoB_ok h2 hs
    rw [Nat.eq_of_beq_eq_true h1]
    exact ⟨k1, k2, .ptr k3⟩
  | .nilPtr, .nilPtr, s, s2, h, hs => by cases h; exact ⟨hs, .refl _, .nilPtr⟩
  | .slice a o l c x, .slice b p l2 c2 x2, s, s2, h, hs => by
    simp only [isoV] at h
    obtain ⟨h1, h2⟩ := bif_some h
    simp only [Bool.and_eq_true, Nat.beq_eq] at h1
    obtain ⟨⟨⟨g1, g2⟩, g3⟩, g4⟩ := h1
    obtain ⟨k1, k2, k3⟩ := isoB_ok h2 hs
    rw [g1, g2, g3, g4]
    exact ⟨k1, k2, .slice k3⟩
  | .nilSlice, .nilSlice, s, s2, h, hs => by cases h; exact ⟨hs, .refl _, .nilSlice⟩
  | .map a, .map b, s, s2, h, hs => by
    simp only [isoV] at h
    obtain ⟨k1, k2, k3⟩ := isoB_ok h hs
    exact ⟨k1, k2, .map k3⟩
  | .nilMap, .nilMap, s, s2, h, hs => by cases h; exact ⟨hs, .refl _, .nilMap⟩
  | .func f a b, .func g c d, s, s2, h, hs => by
    simp only [isoV] at h
    obtain ⟨h1, h2⟩ := bif_some h
    split at h2
    · rename_i s1 h3
      obtain ⟨k1, k2, k3⟩ := isoL_ok a c s s1 h3 hs
      obtain ⟨j1, j2, j3⟩ := isoL_ok b d s1 s2 h2 k1
      rw [k2.n0] at j3
      rw [show f = g from Nat.eq_of_beq_eq_true h1]
      exact ⟨j1, k2.trans j2, .func (VIL.mono j2.pairs k3) j3⟩
    · cases h2
  | .nilFunc, .nilFunc, s, s2, h, hs => by cases h; exact ⟨hs, .refl _, .nilFunc⟩
  | .iface t v, .iface u w, s, s2, h, hs => by
    simp only [isoV] at h
    obtain ⟨h1, h2⟩ := bif_some h
    obtain ⟨k1, k2, k3⟩ := isoV_ok v w s s2 h2 hs
    rw [show t = u from Nat.eq_of_beq_eq_true h1]
    exact ⟨k1, k2, .iface k3⟩
  | .nilIface, .nilIface, s, s2, h, hs => by cases h; exact ⟨hs, .refl _, .nilIface⟩
  | .agg a, .agg b, s, s2, h, hs => by
    simp only [isoV] at h
    obtain ⟨k1, k2, k3⟩ := isoL_ok a b s s2 h hs
    exact ⟨k1, k2, .agg k3⟩
  | .tup a, .tup b, s, s2, h, hs => by
    simp only [isoV] at h
    obtain ⟨k1, k2, k3⟩ := isoL_ok a b s s2 h hs
    exact ⟨k1, k2, .tup k3⟩
theorem isoL_ok : ∀ (a b : List AV) (s s2 : Iso), isoL s a b = some s2 → IsoOk s → IsoR s s2 fun q => VIL s.n0 q a b
  | [], [], s, s2, h, hs => by cases h; exact ⟨hs, .refl _, .nil⟩
  | a :: x, b :: y, s, s2, h, hs => by
    simp only [isoL] at h
    split at h
    · rename_i s1 h3
      obtain ⟨k1, k2, k3⟩ := isoV_ok a b s s1 h3 hs
      obtain ⟨j1, j2, j3⟩ := isoL_ok x y s1 s2 h k1
      rw [k2.n0] at j3
      exact ⟨j1, k2.trans j2, .cons (VI.mono j2.pairs k3) j3⟩
    · cases h
  | [], _ :: _, s, s2, h, hs => by simp [isoL] at h
  | _ :: _, [], s, s2, h, hs => by simp [isoL] at h
end

theorem isoE_ok : ∀ (a b : List (AV × AV)) (s s2 : Iso), isoE s a b = some s2 → IsoOk s → IsoR s s2 fun q => EI s.n0 q a b
  | [], [], s, s2, h, hs => by cases h; exact ⟨hs, .refl _, .nil⟩
  | [], _ :: _, s, s2, h, hs => by simp [isoE] at h
  | (k, v) :: rest, es, s, s2, h, hs => by
    simp only [isoE] at h
    split at h
    · rename_i w hw
      split at h
      · rename_i s1 h3
        obtain ⟨k1, k2, k3⟩ := isoV_ok v w s s1 h3 hs
        obtain ⟨j1, j2, j3⟩ := isoE_ok rest (removeE k es) s1 s2 h k1
        rw [k2.n0] at j3
        exact ⟨j1, k2.trans j2, .cons hw (VI.mono j2.pairs k3) j3⟩
      · cases h
    · cases h

theorem isoO_ok (a b : AObj) (s s2 : Iso) (h : isoO s a b = some s2) (hs : IsoOk s) : IsoR s s2 fun q => OI s.n0 q a b := by
  unfold isoO at h
  split at h
  · obtain ⟨h1, h2⟩ := bif_some h
    rw [Bool.and_eq_true, boolEq_iff] at h1
    obtain ⟨k1, k2, k3⟩ := isoL_ok _ _ s s2 h2 hs
    rw [h1.2, show _ = _ from Nat.eq_of_beq_eq_true h1.1]
    exact ⟨k1, k2, .cells k3⟩
  · obtain ⟨h1, h2⟩ := bif_some h
    obtain ⟨k1, k2, k3⟩ := isoE_ok _ _ s s2 h2 hs
    rw [show _ = _ from Nat.eq_of_beq_eq_true h1]
    exact ⟨k1, k2, .map k3⟩
  · cases h; exact ⟨hs, .refl _, .def0⟩
  · cases h; exact ⟨hs, .refl _, .def1⟩
  · cases h

/-- what a pair's objects are -/
def Good (ha hb : Heap) (n0 : Nat) (q : List (Nat × Nat)) (p : Nat × Nat) : Prop := ∃ x y, ha.get p.1 = some x ∧ hb.get p.2 = some y ∧ OI n0 q x y

theorem isoRun_ok {ha hb : Heap} : ∀ (n : Nat) (s s2 : Iso), isoRun ha hb n s = some s2 → IsoOk s → (∀ p ∈ s.pairs, p ∈ s.todo ∨ Good ha hb s.n0 s.pairs p) →
    IsoOk s2 ∧ s2.n0 = s.n0 ∧ (∀ p ∈ s.pairs, p ∈ s2.pairs) ∧ ∀ p ∈ s2.pairs, Good ha hb s.n0 s2.pairs p
  | 0, s, s2, h, hs, hg => by simp [isoRun] at h
  | n + 1, ⟨n0, fwd, bwd, pairs, []⟩, s2, h, hs, hg => by
    simp only [isoRun, Option.some.injEq] at h
    subst h
    exact ⟨hs, rfl, fun _ h => h, fun p hp => (hg p hp).elim (fun h => by cases h) id⟩
  | n + 1, ⟨n0, fwd, bwd, pairs, (a, b) :: rest⟩, s2, h, hs, hg => by
    simp only [isoRun] at h
    split at h
    · rename_i x y hx hy
      split at h
      · rename_i s1 h3
        have hs0 : IsoOk ⟨n0, fwd, bwd, pairs, rest⟩ := ⟨hs.pair, hs.fwd, hs.bwd, hs.has1, hs.has2⟩
        obtain ⟨k1, k2, k3⟩ := isoO_ok x y _ s1 h3 hs0
        obtain ⟨j1, j2, j3, j4⟩ := isoRun_ok n s1 s2 h k1 (fun p hp => by
          rcases k2.new p hp with hp | hp
          · rcases hg p hp with hp2 | ⟨x2, y2, g1, g2, g3⟩
            · rcases List.mem_cons.1 hp2 with e | hp2
              · subst e
                refine .inr ⟨x, y, hx, hy, ?_⟩
                rw [k2.n0]; exact k3
              · exact .inl (k2.todo p hp2)
            · refine .inr ⟨x2, y2, g1, g2, ?_⟩
              rw [k2.n0]; exact OI.mono k2.pairs g3
          · exact .inl hp)
        rw [k2.n0] at j2 j4
        exact ⟨j1, j2, fun p hp => j3 p (k2.pairs p hp), j4⟩
      · cases h
    · cases h

theorem isoOld_ok {ha hb : Heap} : ∀ (l : List Nat) (s s2 : Iso), isoOld ha hb l s = some s2 → IsoOk s →
    IsoOk s2 ∧ Ext s s2 ∧ ∀ a ∈ l, a < s.n0 → (ha.get a = none ∧ hb.get a = none) ∨ Good ha hb s.n0 s2.pairs (a, a)
  | [], s, s2, h, hs => by cases h; exact ⟨hs, .refl _, fun a ha => by cases ha⟩
  | a :: rest, s, s2, h, hs => by
    simp only [isoOld] at h
    cases hlt : Nat.blt a s.n0 with
    | false =>
      rw [hlt] at h
      obtain ⟨k1, k2, k3⟩ := isoOld_ok rest s s2 h hs
      refine ⟨k1, k2, fun c hc hc2 => ?_⟩
      rcases List.mem_cons.1 hc with rfl | hc
      · rw [(blt_iff _ _).2 hc2] at hlt; cases hlt
      · exact k3 c hc hc2
    | true =>
      rw [hlt] at h
      simp only [cond_true] at h
      split at h
      · rename_i s1 h3
        have h4 : IsoOk s1 ∧ Ext s s1 ∧ ((ha.get a = none ∧ hb.get a = none) ∨ Good ha hb s.n0 s1.pairs (a, a)) := by
          unfold isoOld1 at h3
          split at h3
          · rename_i x y hx hy
            obtain ⟨k1, k2, k3⟩ := isoO_ok x y s s1 h3 hs
            exact ⟨k1, k2, .inr ⟨x, y, hx, hy, k3⟩⟩
          · rename_i hx hy
            cases h3
            exact ⟨hs, .refl _, .inl ⟨hx, hy⟩⟩
          · cases h3
        obtain ⟨g1, g2, g3⟩ := h4
        obtain ⟨k1, k2, k3⟩ := isoOld_ok rest s1 s2 h g1
        refine ⟨k1, g2.trans k2, fun c hc hc2 => ?_⟩
        rcases List.mem_cons.1 hc with rfl | hc
        · rcases g3 with g3 | ⟨x, y, e1, e2, e3⟩
          · exact .inl g3
          · exact .inr ⟨x, y, e1, e2, OI.mono k2.pairs e3⟩
        · rw [← g2.n0]; rw [← g2.n0] at hc2; exact k3 c hc hc2
      · cases h

/-- WHAT THE CHECK OF TWO OUTCOMES SAYS. -/
structure IsoF (n0 : Nat) (l : List Nat) (x y : AV × Heap) (q : List (Nat × Nat)) : Prop where
  next : n0 ≤ x.2.next
  low : ∀ a b, (a, b) ∈ q → n0 ≤ a ∧ n0 ≤ b ∧ a < x.2.next
  fn : ∀ a b c, (a, b) ∈ q → (a, c) ∈ q → b = c
  inj : ∀ a b c, (a, c) ∈ q → (b, c) ∈ q → a = b
  val : VI n0 q x.1 y.1
  old : ∀ a ∈ l, a < n0 → (x.2.get a = none ∧ y.2.get a = none) ∨ Good x.2 y.2 n0 q (a, a)
  obj : ∀ p ∈ q, Good x.2 y.2 n0 q p

theorem firstsBelow_ok {n : Nat} : ∀ {l : List (Nat × Nat)}, firstsBelow n l = true → ∀ p ∈ l, p.1 < n
  | [], _, p, hp => by cases hp
  | x :: l, h, p, hp => by
    simp only [firstsBelow] at h
    obtain ⟨h1, h2⟩ := cond_and h
    rcases List.mem_cons.1 hp with rfl | hp
    · exact (blt_iff _ _).1 h1
    · exact firstsBelow_ok h2 p hp

theorem isoOut_ok {n0 : Nat} {l : List Nat} {x y : AV × Heap} {q : List (Nat × Nat)} (h : isoOut n0 l x y = some q) : IsoF n0 l x y q := by
  unfold isoOut at h
  split at h
  · cases h
  · rename_i s1 h1
    cases h2 : isoOld x.2 y.2 l s1 with
    | none => rw [h2] at h; cases h
    | some s2 =>
      rw [h2] at h
      simp only [Option.bind_some] at h
      cases h3 : isoRun x.2 y.2 10000 s2 with
      | none => rw [h3] at h; cases h
      | some s3 =>
        rw [h3] at h
        simp only [Option.bind_some] at h
        have hs0 : IsoOk ⟨n0, .full none 17, .full none 17, [], []⟩ := ⟨fun a b hab => (by cases hab), fun a b hab => (by simp only [T.get_full] at hab; cases hab),
          fun a b hab => (by simp only [T.get_full] at hab; cases hab), fun k hk => has_full none 17 k (by omega), fun k hk => has_full none 17 k (by omega)⟩
        obtain ⟨a1, a2, a3⟩ := isoV_ok _ _ _ s1 h1 hs0
        obtain ⟨b1, b2, b3⟩ := isoOld_ok l s1 s2 h2 a1
        have hx := a2.trans b2
        have hn1 : s1.n0 = n0 := a2.n0
        have hn2 : s2.n0 = n0 := hx.n0
        obtain ⟨c1, c2, c3, c4⟩ := isoRun_ok 10000 s2 s3 h3 b1 (fun p hp => (hx.new p hp).elim (fun hh => by cases hh) .inl)
        obtain ⟨m0, fwd, bwd, pairs, todo⟩ := s3
        simp only [isoEnd] at h
        obtain ⟨h4', h5⟩ := bif_some h
        rw [Bool.and_eq_true, Nat.ble_eq] at h4'
        obtain ⟨h40, h4⟩ := h4'
        simp only [Option.some.injEq] at h5
        subst h5
        simp only at c2 c3 c4
        rw [hn2] at c2 c4
        subst c2
        rw [hn1] at b3
        refine ⟨h40, fun a b hab => ?_, fun a b c h1 h2 => ?_, fun a b c h1 h2 => ?_, VI.mono (fun p hp => c3 p (b2.pairs p hp)) a3, fun a ha hlt => ?_, c4⟩
        · obtain ⟨g1, g2, _, _⟩ := c1.pair a b hab
          exact ⟨g1, g2, firstsBelow_ok h4 _ hab⟩
        · have g1 := (c1.pair a b h1).2.2.1
          have g2 := (c1.pair a c h2).2.2.1
          rw [g1] at g2; cases g2; rfl
        · have g1 := (c1.pair a c h1).2.2.2
          have g2 := (c1.pair b c h2).2.2.2
          rw [g1] at g2; cases g2; rfl
        · rcases b3 a ha hlt with g | ⟨u, v, e1, e2, e3⟩
          · exact .inl g
          · exact .inr ⟨u, v, e1, e2, OI.mono c3 e3⟩

end Go.Ab
end
