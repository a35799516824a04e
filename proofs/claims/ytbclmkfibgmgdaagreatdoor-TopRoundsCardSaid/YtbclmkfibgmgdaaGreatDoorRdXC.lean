/- Regions that draw their order: the run in the order of the text, recorded. Regions that draw their order: what the record says of any order. Conditions: none. -/
import Derived.Test.YtbclmkfibgmgdaaGreatDoorRdWS
section
namespace Go.Ab

/-- what an operation did -/
structure TE where
  v : AV
  al : Option AObj
  ef : Option Heap
  rd : Option (Nat × AObj)

def dstAt (ps : List Tr) (n : Nat) : Option Nat := (ps[n]?).bind (·.o.dst)
def idxAt (ps : List Tr) (n : Nat) : Nat := match ps[n]? with | some t => t.i | none => 0
noncomputable def tmAt (ps : List Tr) (tm0 : T AV) (tr : Nat → TE) (D : Nat → Bool) : Nat → T AV
  | 0 => tm0
  | n + 1 => match D n, dstAt ps n with
    | true, some d => (tmAt ps tm0 tr D n).set d (tr n).v
    | _, _ => tmAt ps tm0 tr D n
noncomputable def heapAt (ps : List Tr) (base : Nat) (h0 : Heap) (tr : Nat → TE) (D : Nat → Bool) : Nat → Heap
  | 0 => h0
  | n + 1 => match D n, (tr n).ef, (tr n).al with
    | true, some h, _ => h
    | true, none, some o => (heapAt ps base h0 tr D n).put (base + idxAt ps n) o
    | _, _, _ => heapAt ps base h0 tr D n
def effsAt (ps : List Tr) (tr : Nat → TE) : Nat → List Nat
  | 0 => []
  | n + 1 => match (tr n).ef with
    | some _ => idxAt ps n :: effsAt ps tr n
    | none => effsAt ps tr n
def allocsAt (ps : List Tr) (tr : Nat → TE) : Nat → List Nat
  | 0 => []
  | n + 1 => match (tr n).al with
    | some _ => idxAt ps n :: allocsAt ps tr n
    | none => allocsAt ps tr n
def snapsAt (h00 : Heap) (tr : Nat → TE) : Nat → List Heap
  | 0 => [h00]
  | n + 1 => match (tr n).ef with
    | some h => h :: snapsAt h00 tr n
    | none => snapsAt h00 tr n
def readsAt (ps : List Tr) (tr : Nat → TE) : Nat → List (Nat × Nat × AObj)
  | 0 => []
  | n + 1 => match (tr n).rd with
    | some (b, o) => (idxAt ps n, b, o) :: readsAt ps tr n
    | none => readsAt ps tr n
def yes : Nat → Bool := fun _ => true

section
variable {ps : List Tr} {tm0 : T AV} {base : Nat} {h0 h00 : Heap} {tr tr2 : Nat → TE} {D : Nat → Bool}

theorem tmAt_congr : ∀ {n : Nat}, (∀ k, k < n → tr k = tr2 k) → tmAt ps tm0 tr D n = tmAt ps tm0 tr2 D n
  | 0, _ => rfl
  | n + 1, h => by
    simp only [tmAt, h n (Nat.lt_succ_self n), tmAt_congr fun k hk => h k (Nat.lt_succ_of_lt hk)]
theorem heapAt_congr : ∀ {n : Nat}, (∀ k, k < n → tr k = tr2 k) → heapAt ps base h0 tr D n = heapAt ps base h0 tr2 D n
  | 0, _ => rfl
  | n + 1, h => by
    simp only [heapAt, h n (Nat.lt_succ_self n), heapAt_congr fun k hk => h k (Nat.lt_succ_of_lt hk)]
theorem effsAt_congr : ∀ {n : Nat}, (∀ k, k < n → tr k = tr2 k) → effsAt ps tr n = effsAt ps tr2 n
  | 0, _ => rfl
  | n + 1, h => by
    simp only [effsAt, h n (Nat.lt_succ_self n), effsAt_congr fun k hk => h k (Nat.lt_succ_of_lt hk)]
theorem allocsAt_congr : ∀ {n : Nat}, (∀ k, k < n → tr k = tr2 k) → allocsAt ps tr n = allocsAt ps tr2 n
  | 0, _ => rfl
  | n + 1, h => by
    simp only [allocsAt, h n (Nat.lt_succ_self n), allocsAt_congr fun k hk => h k (Nat.lt_succ_of_lt hk)]
theorem snapsAt_congr : ∀ {n : Nat}, (∀ k, k < n → tr k = tr2 k) → snapsAt h00 tr n = snapsAt h00 tr2 n
  | 0, _ => rfl
  | n + 1, h => by
    simp only [snapsAt, h n (Nat.lt_succ_self n), snapsAt_congr fun k hk => h k (Nat.lt_succ_of_lt hk)]
theorem readsAt_congr : ∀ {n : Nat}, (∀ k, k < n → tr k = tr2 k) → readsAt ps tr n = readsAt ps tr2 n
  | 0, _ => rfl
  | n + 1, h => by
    simp only [readsAt, h n (Nat.lt_succ_self n), readsAt_congr fun k hk => h k (Nat.lt_succ_of_lt hk)]

end

noncomputable def Want (L : List Oper) (o : Oper) (tm : T AV) : Option Bool :=
  match o.guard with
  | none => some true
  | some (j, want) => wantedG L tm j want
theorem want_leads {L : List Oper} {o : Oper} {tm : T AV} {y n : Out} {Φ : AV × Heap → Prop} (hy : Want L o tm = some true → Leads y Φ) (hn : Want L o tm = some false → Leads n Φ) : Leads (stepWanted L o.guard tm y n) Φ := by
  unfold stepWanted
  unfold Want at hy hn
  split
  · rename_i hg; rw [hg] at hy; exact hy rfl
  · rename_i j want hg
    rw [hg] at hy hn
    simp only at hy hn
    split
    · rename_i b hb
      cases b with
      | true => exact hy hb
      | false => exact hn hb
    · exact .bad

/-- what is known of an operation's run -/
inductive KOk (E : Env) (rec : Rec) (L : List Oper) (ps : List Tr) (base : Nat) (tm0 : T AV) (h0 h00 : Heap) (tr : Nat → TE) (j : Nat) (x : Tr) : Prop
  | skip : Want L x.o (tmAt ps tm0 tr yes j) = some false → tr j = ⟨undefA, none, none, none⟩ → KOk E rec L ps base tm0 h0 h00 tr j x
  | pv {f : PF} {v : AV} : Want L x.o (tmAt ps tm0 tr yes j) = some true → doOp x.o.op E = .pv f → f E (tmAt ps tm0 tr yes j) = some v → tr j = ⟨v, none, none, none⟩ → KOk E rec L ps base tm0 h0 h00 tr j x
  | rd0 {y : Operand} {f : RF} {v : AV} : Want L x.o (tmAt ps tm0 tr yes j) = some true → doOp x.o.op E = .rd y f → f E (tmAt ps tm0 tr yes j) (heapAt ps base h0 tr yes j) = some v → tr j = ⟨v, none, none, none⟩ →
      addrOf (operand (tmAt ps tm0 tr yes j) y) = none → KOk E rec L ps base tm0 h0 h00 tr j x
  | rd {y : Operand} {f : RF} {v : AV} {b : Nat} {ob : AObj} : Want L x.o (tmAt ps tm0 tr yes j) = some true → doOp x.o.op E = .rd y f → f E (tmAt ps tm0 tr yes j) (heapAt ps base h0 tr yes j) = some v →
      tr j = ⟨v, none, none, some (b, ob)⟩ → addrOf (operand (tmAt ps tm0 tr yes j) y) = some b → (heapAt ps base h0 tr yes j).get b = some ob →
      (∀ r hs, r ≤ countLate x.m (effsAt ps tr j) → (snapsAt h00 tr j)[r]? = some hs → hs.get b = some ob) → KOk E rec L ps base tm0 h0 h00 tr j x
  | al {f : AF} {ob : AObj} {g : Nat → AV} : Want L x.o (tmAt ps tm0 tr yes j) = some true → doOp x.o.op E = .al f → f E (tmAt ps tm0 tr yes j) = some (ob, g) → tr j = ⟨g (base + x.i), some ob, none, none⟩ →
      ((∀ k ∈ effsAt ps tr j, bitAt x.m k = true) ∨ isCells ob = true) → KOk E rec L ps base tm0 h0 h00 tr j x
  | full {f : XF} {v : AV} {h' : Heap} : Want L x.o (tmAt ps tm0 tr yes j) = some true → doOp x.o.op E = .full f → drawFull E rec f ⟨x.i, x.m, base⟩ (tmAt ps tm0 tr yes j) (heapAt ps base h0 tr yes j) = .ret (v, h') →
      tr j = ⟨v, none, some h', none⟩ → (∀ k ∈ effsAt ps tr j, bitAt x.m k = true) → (∀ k ∈ allocsAt ps tr j, bitAt x.m k = true) → (∀ r ∈ readsAt ps tr j, bitAt x.m r.1 = true ∨ h'.get r.2.1 = some r.2.2) →
      KOk E rec L ps base tm0 h0 h00 tr j x

section
variable {E : Env} {rec : Rec} {L : List Oper} {ps : List Tr} {base nt : Nat} {tm0 : T AV} {h0 h00 : Heap} {tr tr2 : Nat → TE}

theorem KOk.congr {j : Nat} {x : Tr} (h : ∀ k, k ≤ j → tr k = tr2 k) (hx : KOk E rec L ps base tm0 h0 h00 tr j x) : KOk E rec L ps base tm0 h0 h00 tr2 j x := by
  have h1 : ∀ k, k < j → tr k = tr2 k := fun k hk => h k (Nat.le_of_lt hk)
  have e1 := tmAt_congr (ps := ps) (tm0 := tm0) (D := yes) h1
  have e2 := heapAt_congr (ps := ps) (base := base) (h0 := h0) (D := yes) h1
  have e3 := effsAt_congr (ps := ps) h1
  have e4 := allocsAt_congr (ps := ps) h1
  have e5 := snapsAt_congr (h00 := h00) h1
  have e6 := readsAt_congr (ps := ps) h1
  have e7 := h j (Nat.le_refl j)
  cases hx with
  | skip a b => exact .skip (e1 ▸ a) (e7 ▸ b)
  | pv a b c d => exact .pv (e1 ▸ a) b (e1 ▸ c) (e7 ▸ d)
  | rd0 a b c d e => exact .rd0 (e1 ▸ a) b (by rw [← e1, ← e2]; exact c) (e7 ▸ d) (e1 ▸ e)
  | rd a b c d e f g => exact .rd (e1 ▸ a) b (by rw [← e1, ← e2]; exact c) (e7 ▸ d) (e1 ▸ e) (e2 ▸ f) (by rw [← e3, ← e5]; exact g)
  | al a b c d e => exact .al (e1 ▸ a) b (e1 ▸ c) (e7 ▸ d) (e3 ▸ e)
  | full a b c d e f g => exact .full (e1 ▸ a) b (by rw [← e1, ← e2]; exact c) (e7 ▸ d) (e3 ▸ e) (e4 ▸ f) (e6 ▸ g)

def TrOk (E : Env) (rec : Rec) (L : List Oper) (ps : List Tr) (base nt : Nat) (tm0 : T AV) (h0 h00 : Heap) (tr : Nat → TE) (n : Nat) : Prop :=
  ∀ j, j < n → ∃ x : Tr, ps[j]? = some x ∧ (∀ d, x.o.dst = some d → d < nt) ∧ KOk E rec L ps base tm0 h0 h00 tr j x

structure SOk (ps : List Tr) (base : Nat) (tm0 : T AV) (h0 h00 : Heap) (tr : Nat → TE) (n : Nat) (s : DS) : Prop where
  tm : s.tm = tmAt ps tm0 tr yes n
  h : s.h = heapAt ps base h0 tr yes n
  effs : s.effs = effsAt ps tr n
  allocs : s.allocs = allocsAt ps tr n
  snaps : s.snaps = snapsAt h00 tr n
  reads : s.reads = readsAt ps tr n

def upd (tr : Nat → TE) (i : Nat) (e : TE) : Nat → TE := fun j => if j = i then e else tr j
theorem upd_self {i : Nat} {e : TE} : upd tr i e i = e := by simp [upd]
theorem upd_lt {i k : Nat} {e : TE} (h : k < i) : tr k = upd tr i e k := by
  have : k ≠ i := Nat.ne_of_lt h
  simp [upd, this]

theorem beq_all : ∀ n, (∀ a b : AV, SizeOf.sizeOf a < n → AV.beq a b = true → a = b) ∧ (∀ a b : List AV, SizeOf.sizeOf a < n → AV.beqL a b = true → a = b) := by
  intro n
  induction n with
  | zero => exact ⟨fun a b h => by omega, fun a b h => by omega⟩
  | succ n ih =>
    refine ⟨fun a b hs h => ?_, fun a b hs h => ?_⟩
    · cases a <;> cases b <;> simp only [AV.beq, Bool.and_eq_true, Nat.beq_eq, decide_eq_true_eq] at h <;> try (cases h; done)
      case bool.bool => rw [(boolEq_iff _ _).1 h]
      case int.int => rw [h.1, h.2]
      case str.str => rw [(natsEq_iff _ _).1 h]
      case ptr.ptr => rw [h.1, h.2]
      case nilPtr.nilPtr => rfl
      case slice.slice => obtain ⟨⟨⟨⟨h1, h2⟩, h3⟩, h4⟩, h5⟩ := h; rw [h1, h2, h3, h4, h5]
      case nilSlice.nilSlice => rfl
      case map.map => rw [h]
      case nilMap.nilMap => rfl
      case func.func =>
        obtain ⟨⟨h1, h2⟩, h3⟩ := h
        simp at hs
        rw [h1, ih.2 _ _ (by omega) h2, ih.2 _ _ (by omega) h3]
      case yld.yld => rw [h]
      case nilFunc.nilFunc => rfl
      case iface.iface => simp at hs; rw [h.1, ih.1 _ _ (by omega) h.2]
      case nilIface.nilIface => rfl
      case agg.agg => simp at hs; rw [ih.2 _ _ (by omega) h]
      case tup.tup => simp at hs; rw [ih.2 _ _ (by omega) h]
    · cases a with
      | nil => cases b with
        | nil => rfl
        | cons _ _ => simp [AV.beqL] at h
      | cons x l => cases b with
        | nil => simp [AV.beqL] at h
        | cons y r =>
          simp only [AV.beqL, Bool.and_eq_true] at h
          simp at hs
          rw [ih.1 _ _ (by omega) h.1, ih.2 _ _ (by omega) h.2]
theorem beqL_ok {a b : List AV} (h : AV.beqL a b = true) : a = b := (beq_all _).2 a b (Nat.lt_succ_self _) h
theorem sameE_ok : ∀ {a b : List (AV × AV)}, sameE a b = true → a = b
  | [], [], _ => rfl
  | [], _ :: _, h => by simp [sameE] at h
  | _ :: _, [], h => by simp [sameE] at h
  | (k, v) :: a, (k2, v2) :: b, h => by
    simp only [sameE, Bool.and_eq_true] at h
    rw [(beq_all _).1 k k2 (Nat.lt_succ_self _) h.1.1, (beq_all _).1 v v2 (Nat.lt_succ_self _) h.1.2, sameE_ok h.2]

theorem sameAt_ok {o : AObj} {x : Option AObj} (h : sameAt o x = true) : x = some o := by
  unfold sameAt at h
  split at h
  · unfold sameO at h
    split at h
    · simp only [Bool.and_eq_true, Nat.beq_eq, boolEq_iff] at h
      obtain ⟨⟨h1, h2⟩, h3⟩ := h
      rw [beqL_ok h1, h2, h3]
    · simp only [Bool.and_eq_true, Nat.beq_eq] at h
      rw [h.1, sameE_ok h.2]
    · cases h
  · cases h

theorem readOk_ok {late b : Nat} {snaps : List Heap} {o : AObj} (h : readOk late snaps b o = true) : ∀ r hs, r ≤ late → snaps[r]? = some hs → hs.get b = some o := by
  intro r hs hr he
  unfold readOk at h
  rw [List.all_eq_true] at h
  refine sameAt_ok (h hs ?_)
  obtain ⟨hlt, hv⟩ := List.getElem?_eq_some_iff.1 he
  rw [List.mem_iff_getElem]
  refine ⟨r, by simp; omega, ?_⟩
  simp [hv]

theorem only_ret {m : Out} {k : KV} {Φ : AV × Heap → Prop} (h : ∀ v h', m = .ret (v, h') → Leads (k v h') Φ) : Leads (only m k) Φ := by
  unfold only
  split
  · exact h _ _ rfl
  · exact .bad

/-- THE RUN IN THE ORDER OF THE TEXT, RECORDED. -/
theorem draw_trace {k : KD} {Φ : AV × Heap → Prop} (hk : ∀ tr s, TrOk E rec L ps base nt tm0 h0 h00 tr ps.length → SOk ps base tm0 h0 h00 tr ps.length s → Leads (k s) Φ) :
    ∀ (rest : List Tr) (i : Nat) (tr : Nat → TE) (s : DS), (∀ j, rest[j]? = ps[i + j]?) → i + rest.length = ps.length →
      TrOk E rec L ps base nt tm0 h0 h00 tr i → SOk ps base tm0 h0 h00 tr i s → Leads (drawOps E rec nt L base k rest s) Φ
  | [], i, tr, s, hr, hl, ht, hs => by
    have : i = ps.length := by simpa using hl
    subst this
    exact hk tr s ht hs
  | ⟨ix, o, m⟩ :: rest, i, tr, s, hr, hl, ht, hs => by
    have hLi : ps[i]? = some ⟨ix, o, m⟩ := by have := hr 0; simpa using this.symm
    have hix : idxAt ps i = ix := by simp [idxAt, hLi]
    have ih := fun tr s => draw_trace hk rest (i + 1) tr s (fun j => by have := hr (j + 1); rw [List.getElem?_cons_succ] at this; rw [this]; congr 1; omega)
      (by simp at hl; omega)
    obtain ⟨tm, h, effs, allocs, snaps, reads⟩ := s
    obtain ⟨q1, q2, q3, q4, q5, q6⟩ := hs
    simp only at q1 q2 q3 q4 q5 q6
    subst q1 q2 q3 q4 q5 q6
    have hdst : dstAt ps i = o.dst := by simp [dstAt, hLi]
    -- a value is put
    have put : ∀ (e : TE) (h' : Heap) (effs' allocs' : List Nat) (snaps' : List Heap) (reads' : List (Nat × Nat × AObj)),
        KOk E rec L ps base tm0 h0 h00 (upd tr i e) i ⟨ix, o, m⟩ → h' = heapAt ps base h0 (upd tr i e) yes (i + 1) → effs' = effsAt ps (upd tr i e) (i + 1) → allocs' = allocsAt ps (upd tr i e) (i + 1) →
        snaps' = snapsAt h00 (upd tr i e) (i + 1) → reads' = readsAt ps (upd tr i e) (i + 1) →
        ∀ hx, Leads (dPut nt o.dst (drawOps E rec nt L base k rest) ⟨tmAt ps tm0 tr yes i, hx, effs', allocs', snaps', reads'⟩ e.v h') Φ := by
      intro e h' effs' allocs' snaps' reads' hK e1 e2 e3 e4 e5 hx
      have hT : (∀ d, o.dst = some d → d < nt) → TrOk E rec L ps base nt tm0 h0 h00 (upd tr i e) (i + 1) := by
        intro hd j hj
        rcases Nat.lt_or_ge j i with hji | hji
        · obtain ⟨o2, g1, g3, g4⟩ := ht j hji
          exact ⟨o2, g1, g3, g4.congr fun k hk => upd_lt (Nat.lt_of_le_of_lt hk hji)⟩
        · have : j = i := by omega
          subst this
          exact ⟨⟨ix, o, m⟩, hLi, hd, hK⟩
      have hc := tmAt_congr (ps := ps) (tm0 := tm0) (D := yes) (n := i) (tr := tr) (tr2 := upd tr i e) fun k hk => upd_lt hk
      unfold dPut
      simp only
      cases hd : o.dst with
      | none =>
        refine ih _ _ (hT fun d h => by rw [hd] at h; cases h) ⟨?_, e1, e2, e3, e4, e5⟩
        simp only [tmAt, yes, hdst, hd]
        exact hc
      | some d =>
        apply guard_leads
        intro hlt
        refine ih _ _ (hT fun d' h => by rw [hd] at h; cases h; exact (blt_iff _ _).1 hlt) ⟨?_, e1, e2, e3, e4, e5⟩
        simp only [tmAt, yes, hdst, hd, upd_self]
        rw [hc]
    have put0 : ∀ (e : TE), e.al = none → e.ef = none → e.rd = none → KOk E rec L ps base tm0 h0 h00 (upd tr i e) i ⟨ix, o, m⟩ →
        ∀ hx, Leads (dPut nt o.dst (drawOps E rec nt L base k rest) ⟨tmAt ps tm0 tr yes i, hx, effsAt ps tr i, allocsAt ps tr i, snapsAt h00 tr i, readsAt ps tr i⟩ e.v (heapAt ps base h0 tr yes i)) Φ := by
      intro e h1 h2 h3 hK hx
      have hlt : ∀ k, k < i → tr k = upd tr i e k := fun k hk => upd_lt hk
      refine put e _ _ _ _ _ hK ?_ ?_ ?_ ?_ ?_ hx
      · simp only [heapAt, upd_self, h1, h2, yes]; exact heapAt_congr hlt
      · simp only [effsAt, upd_self, h2]; exact effsAt_congr hlt
      · simp only [allocsAt, upd_self, h1]; exact allocsAt_congr hlt
      · simp only [snapsAt, upd_self, h2]; exact snapsAt_congr hlt
      · simp only [readsAt, upd_self, h3]; exact readsAt_congr hlt
    have ce : ∀ e, tmAt ps tm0 (upd tr i e) yes i = tmAt ps tm0 tr yes i := fun e => (tmAt_congr fun k hk => upd_lt hk).symm
    have che : ∀ e, heapAt ps base h0 (upd tr i e) yes i = heapAt ps base h0 tr yes i := fun e => (heapAt_congr fun k hk => upd_lt hk).symm
    have cee : ∀ e, effsAt ps (upd tr i e) i = effsAt ps tr i := fun e => (effsAt_congr fun k hk => upd_lt hk).symm
    have cae : ∀ e, allocsAt ps (upd tr i e) i = allocsAt ps tr i := fun e => (allocsAt_congr fun k hk => upd_lt hk).symm
    have cse : ∀ e, snapsAt h00 (upd tr i e) i = snapsAt h00 tr i := fun e => (snapsAt_congr fun k hk => upd_lt hk).symm
    have cre : ∀ e, readsAt ps (upd tr i e) i = readsAt ps tr i := fun e => (readsAt_congr fun k hk => upd_lt hk).symm
    simp only [drawOps, drawOp]
    refine want_leads (fun hw => ?_) (fun hw => ?_)
    · cases hd : doOp o.op E with
      | pv f =>
        simp only [drawDO]
        unfold dPutO
        cases hv : f E (tmAt ps tm0 tr yes i) with
        | none => exact .bad
        | some v => exact put0 ⟨v, none, none, none⟩ rfl rfl rfl (.pv (by rw [ce]; exact hw) hd (by rw [ce]; exact hv) upd_self) _
      | rd x f =>
        simp only [drawDO, drawRead]
        cases hb : addrOf (operand (tmAt ps tm0 tr yes i) x) with
        | none =>
          simp only
          unfold dPutO
          cases hv : f E (tmAt ps tm0 tr yes i) (heapAt ps base h0 tr yes i) with
          | none => exact .bad
          | some v => exact put0 ⟨v, none, none, none⟩ rfl rfl rfl (.rd0 (by rw [ce]; exact hw) hd (by rw [ce, che]; exact hv) upd_self (by rw [ce]; exact hb)) _
        | some b =>
          simp only
          cases hg : (heapAt ps base h0 tr yes i).get b with
          | none => exact .bad
          | some ob =>
            apply guard_leads
            intro hread
            unfold dPutO
            cases hv : f E (tmAt ps tm0 tr yes i) (heapAt ps base h0 tr yes i) with
            | none => exact .bad
            | some v =>
              have hlt : ∀ k, k < i → tr k = upd tr i ⟨v, none, none, some (b, ob)⟩ k := fun k hk => upd_lt hk
              refine put ⟨v, none, none, some (b, ob)⟩ _ _ _ _ _ (.rd (by rw [ce]; exact hw) hd (by rw [ce, che]; exact hv) upd_self (by rw [ce]; exact hb) (by rw [che]; exact hg)
                (by rw [cee, cse]; exact readOk_ok hread)) ?_ ?_ ?_ ?_ ?_ _
              · simp only [heapAt, upd_self, yes]; exact heapAt_congr hlt
              · simp only [effsAt, upd_self]; exact effsAt_congr hlt
              · simp only [allocsAt, upd_self]; exact allocsAt_congr hlt
              · simp only [snapsAt, upd_self]; exact snapsAt_congr hlt
              · simp only [readsAt, upd_self]; rw [cre, hix]
      | al f =>
        simp only [drawDO]
        generalize hH : heapAt ps base h0 tr yes i = H
        obtain ⟨t, n, l⟩ := H
        simp only
        cases hv : f E (tmAt ps tm0 tr yes i) with
        | none => exact .bad
        | some og =>
          obtain ⟨ob, g⟩ := og
          apply guard_leads
          intro heff
          have hlt : ∀ k, k < i → tr k = upd tr i ⟨g (base + ix), some ob, none, none⟩ k := fun k hk => upd_lt hk
          refine put ⟨g (base + ix), some ob, none, none⟩ _ _ _ _ _ (.al (by rw [ce]; exact hw) hd (by rw [ce]; exact hv) upd_self (by rw [cee]; rw [Bool.or_eq_true] at heff; exact heff.imp List.all_eq_true.1 id)) ?_ ?_ ?_ ?_ ?_ _
          · simp only [heapAt, upd_self, yes]; rw [che, hH, hix]; rfl
          · simp only [effsAt, upd_self]; exact effsAt_congr hlt
          · simp only [allocsAt, upd_self]; rw [cae, hix]
          · simp only [snapsAt, upd_self]; exact snapsAt_congr hlt
          · simp only [readsAt, upd_self]; exact readsAt_congr hlt
      | full f =>
        simp only [drawDO]
        apply guard_leads
        intro hck
        rw [Bool.and_eq_true, List.all_eq_true, List.all_eq_true] at hck
        refine only_ret fun v h' he => ?_
        simp only [drawEff]
        apply guard_leads
        intro hrd
        rw [List.all_eq_true] at hrd
        have hlt : ∀ k, k < i → tr k = upd tr i ⟨v, none, some h', none⟩ k := fun k hk => upd_lt hk
        refine put ⟨v, none, some h', none⟩ _ _ _ _ _ (.full (by rw [ce]; exact hw) hd (by rw [ce, che]; exact he) upd_self (by rw [cee]; exact hck.1) (by rw [cae]; exact hck.2) (by
          rw [cre]
          intro r hr
          have := hrd r hr
          rw [Bool.or_eq_true] at this
          exact this.imp id sameAt_ok)) ?_ ?_ ?_ ?_ ?_ _
        · simp only [heapAt, upd_self, yes]
        · simp only [effsAt, upd_self]; rw [cee, hix]
        · simp only [allocsAt, upd_self]; exact allocsAt_congr hlt
        · simp only [snapsAt, upd_self]; rw [cse]
        · simp only [readsAt, upd_self]; exact readsAt_congr hlt
      | no => exact .bad
    · exact put0 ⟨undefA, none, none, none⟩ rfl rfl rfl (.skip (by rw [ce]; exact hw) upd_self) _

end
end Go.Ab
end
section
namespace Go.Ab

/-- what an operation with its own number makes of a heap -/
structure EG (id : Nat) (h h' : Heap) : Prop where
  next : h.next ≤ h'.next
  log : ∀ b, b ∈ h.log → b ∈ h'.log
  same : ∀ b, b ∉ h'.log → h'.get b = h.get b
  none : ∀ b, b < h.next → b ≠ id → h.get b = none → h'.get b = none
  has : ∀ b, h'.t.has b = h.t.has b

section
variable {E : Env} {rec : Rec} {L : List Oper} {ps : List Tr} {base nt : Nat} {tm0 : T AV} {h0 h00 : Heap} {tr : Nat → TE} {D D2 : Nat → Bool}

def EfAl (tr : Nat → TE) (k : Nat) : Prop := (tr k).ef ≠ none ∨ (tr k).al ≠ none

/-! what is kept of the lists -/
theorem mem_effs {k : Nat} (h : (tr k).ef ≠ none) : ∀ {n : Nat}, k < n → idxAt ps k ∈ effsAt ps tr n
  | n + 1, hk => by
    unfold effsAt
    rcases Nat.lt_or_ge k n with h1 | h1
    · have := mem_effs h h1
      split
      · exact List.mem_cons_of_mem _ this
      · exact this
    · have : k = n := by omega
      subst this
      split
      · exact List.mem_cons_self
      · rename_i he; exact absurd he h
theorem mem_allocs {k : Nat} (h : (tr k).al ≠ none) : ∀ {n : Nat}, k < n → idxAt ps k ∈ allocsAt ps tr n
  | n + 1, hk => by
    unfold allocsAt
    rcases Nat.lt_or_ge k n with h1 | h1
    · have := mem_allocs h h1
      split
      · exact List.mem_cons_of_mem _ this
      · exact this
    · have : k = n := by omega
      subst this
      split
      · exact List.mem_cons_self
      · rename_i he; exact absurd he h
theorem mem_reads {k : Nat} {b : Nat} {o : AObj} (h : (tr k).rd = some (b, o)) : ∀ {n : Nat}, k < n → (idxAt ps k, b, o) ∈ readsAt ps tr n
  | n + 1, hk => by
    unfold readsAt
    rcases Nat.lt_or_ge k n with h1 | h1
    · have := mem_reads h h1
      split
      · exact List.mem_cons_of_mem _ this
      · exact this
    · have : k = n := by omega
      subst this
      split
      · rename_i b2 o2 he; rw [h] at he; cases he; exact List.mem_cons_self
      · rename_i he; rw [h] at he; cases he

/-! heaps -/
/-- nothing that touches the heap lies between -/
theorem heap_still {i : Nat} : ∀ {n : Nat}, i ≤ n → (∀ k, i ≤ k → k < n → D k = true → ¬ EfAl tr k) → heapAt ps base h0 tr D n = heapAt ps base h0 tr D i
  | 0, hi, _ => by have : i = 0 := by omega
                   rw [this]
  | n + 1, hi, h => by
    rcases Nat.eq_or_lt_of_le hi with rfl | hlt
    · rfl
    · have ih := heap_still (n := n) (i := i) (by omega) fun k h1 h2 => h k h1 (by omega)
      have hn := h n (by omega) (by omega)
      simp only [heapAt]
      split
      · rename_i hh hD he; exact absurd (.inl (by rw [he]; simp)) (hn hD)
      · rename_i o hD he ha; exact absurd (.inr (by rw [ha]; simp)) (hn hD)
      · exact ih
/-- two sets that agree where the heap is touched -/
theorem heap_agree : ∀ {n : Nat}, (∀ k, k < n → EfAl tr k → D k = D2 k) → heapAt ps base h0 tr D n = heapAt ps base h0 tr D2 n
  | 0, _ => rfl
  | n + 1, h => by
    have ih := heap_agree (n := n) fun k hk => h k (by omega)
    simp only [heapAt]
    by_cases hn : EfAl tr n
    · rw [h n (by omega) hn, ih]
    · have h1 : (tr n).ef = none := by
        cases he : (tr n).ef with
        | none => rfl
        | some x => exact absurd (.inl (by rw [he]; simp)) hn
      have h2 : (tr n).al = none := by
        cases he : (tr n).al with
        | none => rfl
        | some x => exact absurd (.inr (by rw [he]; simp)) hn
      rw [h1, h2]
      cases D n <;> cases D2 n <;> exact ih

structure Grown (ps : List Tr) (base : Nat) (h0 : Heap) (tr : Nat → TE) (D : Nat → Bool) (N : Nat) : Prop where
  at_ : ∀ k, k < N → D k = true → ∀ h', (tr k).ef = some h' → EG (base + idxAt ps k) (heapAt ps base h0 tr yes k) h'

theorem yes_next {N : Nat} (g : Grown ps base h0 tr D N) : ∀ {n : Nat}, n ≤ N → (∀ k, k < n → (tr k).ef ≠ none → D k = true) → h0.next ≤ (heapAt ps base h0 tr yes n).next
  | 0, _, _ => Nat.le_refl _
  | n + 1, hn, h => by
    have ih := yes_next g (n := n) (by omega) fun k hk => h k (by omega)
    simp only [heapAt, yes]
    split
    · rename_i h' _ he
      exact Nat.le_trans ih (g.at_ n (by omega) (h n (by omega) (by rw [he]; simp)) h' he).next
    · exact ih
    · exact ih

theorem d_next {N : Nat} (g : Grown ps base h0 tr D N) (hch : ∀ k j, k < N → D k = true → (tr k).ef ≠ none → j < k → (tr j).ef ≠ none → D j = true) : ∀ {n : Nat}, n ≤ N → h0.next ≤ (heapAt ps base h0 tr D n).next
  | 0, _ => Nat.le_refl _
  | n + 1, hn => by
    have ih := d_next g hch (n := n) (by omega)
    simp only [heapAt]
    split
    · rename_i h' hD he
      have hne : (tr n).ef ≠ none := by rw [he]; simp
      exact Nat.le_trans (yes_next g (by omega) fun k hk hk2 => hch n k (by omega) hD hne hk hk2) (g.at_ n (by omega) hD h' he).next
    · exact ih
    · exact ih

theorem yes_none {N : Nat} (g : Grown ps base h0 tr D N) (hb : base + N ≤ h0.next) (hz : ∀ c, base ≤ c → h0.get c = none) (hlo : ∀ k, k < N → idxAt ps k < N) (hne : ∀ j k, j < N → k < N → j ≠ k → idxAt ps j ≠ idxAt ps k) : ∀ {n : Nat}, n ≤ N → (∀ k, k < n → (tr k).ef ≠ none → D k = true) →
    ∀ j, n ≤ j → j < N → (heapAt ps base h0 tr yes n).get (base + idxAt ps j) = none
  | 0, _, _, j, _, _ => hz _ (Nat.le_add_right _ _)
  | n + 1, hn, h, j, hj, hjN => by
    have ih := yes_none g hb hz hlo hne (n := n) (by omega) (fun k hk => h k (by omega)) j (by omega) hjN
    have hnx := yes_next g (n := n) (by omega) fun k hk => h k (by omega)
    have hl := hlo j hjN
    have hd := hne j n hjN (by omega) (by omega)
    simp only [heapAt, yes]
    split
    · rename_i h' _ he
      exact (g.at_ n (by omega) (h n (by omega) (by rw [he]; simp)) h' he).none _ (by omega) (by omega) ih
    · rw [Heap.get_put_ne _ _ _ _ (by omega)]; exact ih
    · exact ih

/-- the last of those that touch the heap as they like -/
theorem last_eff (D : Nat → Bool) : ∀ n : Nat, ∃ q, q ≤ n ∧ (∀ k, q ≤ k → k < n → D k = true → (tr k).ef = none) ∧ (q = 0 ∨ ∃ p h', q = p + 1 ∧ D p = true ∧ (tr p).ef = some h')
  | 0 => ⟨0, Nat.le_refl _, fun k _ hk => by omega, .inl rfl⟩
  | n + 1 => by
    obtain ⟨q, h1, h2, h3⟩ := last_eff D n
    by_cases hn : D n = true ∧ (tr n).ef ≠ none
    · obtain ⟨ha, hb⟩ := hn
      obtain ⟨h', he⟩ := Option.ne_none_iff_exists'.1 hb
      exact ⟨n + 1, Nat.le_refl _, fun k hk hk2 => by omega, .inr ⟨n, h', rfl, ha, he⟩⟩
    · refine ⟨q, by omega, fun k hk hk2 hD => ?_, h3⟩
      rcases Nat.lt_or_ge k n with h4 | h4
      · exact h2 k hk h4 hD
      · have : k = n := by omega
        subst this
        cases he : (tr k).ef with
        | none => rfl
        | some x => exact absurd ⟨hD, by rw [he]; simp⟩ hn

/-- behind the last one there are new blocks alone -/
theorem d_get {q : Nat} {c : Nat} : ∀ {n : Nat}, q ≤ n → (∀ k, q ≤ k → k < n → D k = true → (tr k).ef = none) → (∀ k, q ≤ k → k < n → c ≠ base + idxAt ps k) →
    (heapAt ps base h0 tr D n).get c = (heapAt ps base h0 tr D q).get c
  | 0, hq, _, _ => by have : q = 0 := by omega
                      rw [this]
  | n + 1, hq, h, hc => by
    rcases Nat.eq_or_lt_of_le hq with rfl | hlt
    · rfl
    · have ih := d_get (n := n) (by omega) (fun k h1 h2 => h k h1 (by omega)) fun k h1 h2 => hc k h1 (by omega)
      simp only [heapAt]
      split
      · rename_i h' hD he
        rw [h n (by omega) (by omega) hD] at he; cases he
      · rw [Heap.get_put_ne _ _ _ _ (hc n (by omega) (by omega))]; exact ih
      · exact ih

theorem d_next_same {q : Nat} : ∀ {n : Nat}, q ≤ n → (∀ k, q ≤ k → k < n → D k = true → (tr k).ef = none) → (heapAt ps base h0 tr D n).next = (heapAt ps base h0 tr D q).next ∧ ∀ c, (heapAt ps base h0 tr D n).t.has c = (heapAt ps base h0 tr D q).t.has c
  | 0, hq, _ => by have : q = 0 := by omega
                   rw [this]; exact ⟨rfl, fun _ => rfl⟩
  | n + 1, hq, h => by
    rcases Nat.eq_or_lt_of_le hq with rfl | hlt
    · exact ⟨rfl, fun _ => rfl⟩
    · have ih := d_next_same (n := n) (by omega) (fun k h1 h2 => h k h1 (by omega))
      simp only [heapAt]
      split
      · rename_i h' hD he
        rw [h n (by omega) (by omega) hD] at he; cases he
      · exact ⟨ih.1, fun c => (T.has_set _ _ c _).trans (ih.2 c)⟩
      · exact ih

/-- what lies at a number of the region, behind the last one -/
theorem x_get {q N : Nat} (hne : ∀ j k, j < N → k < N → j ≠ k → idxAt ps j ≠ idxAt ps k) (hz : ∀ k, q ≤ k → k < N → (heapAt ps base h0 tr D q).get (base + idxAt ps k) = none) : ∀ {n : Nat}, q ≤ n → n ≤ N →
    (∀ k, q ≤ k → k < n → D k = true → (tr k).ef = none) → ∀ k, q ≤ k → k < N → ∀ x, (heapAt ps base h0 tr D n).get (base + idxAt ps k) = some x → (tr k).al = some x
  | 0, hq, _, _, k, hk, hkN, x, hx => by
    have : q = 0 := by omega
    subst this
    rw [hz k hk hkN] at hx; cases hx
  | n + 1, hq, hN, h, k, hk, hkN, x, hx => by
    rcases Nat.eq_or_lt_of_le hq with rfl | hlt
    · rw [hz k hk hkN] at hx; cases hx
    · have ih := x_get hne hz (n := n) (by omega) (by omega) (fun k h1 h2 => h k h1 (by omega)) k hk hkN x
      simp only [heapAt] at hx
      split at hx
      · rename_i h' hD he
        rw [h n (by omega) (by omega) hD] at he; cases he
      · rename_i o hD he ha
        by_cases e : k = n
        · subst e
          have := Heap.get_put_some _ _ _ hx
          rw [ha, this]
        · rw [Heap.get_put_ne _ _ _ _ (by have := hne k n hkN (by omega) e; omega)] at hx
          exact ih hx
      · exact ih hx

/-! temporaries -/
theorem tm_agree {t : Nat} : ∀ {n : Nat}, (∀ k, k < n → dstAt ps k = some t → D k = D2 k) → (tmAt ps tm0 tr D n).get undefA t = (tmAt ps tm0 tr D2 n).get undefA t
  | 0, _ => rfl
  | n + 1, h => by
    have ih := tm_agree (n := n) fun k hk => h k (by omega)
    have hn := h n (by omega)
    have step : ∀ D3 : Nat → Bool, (tmAt ps tm0 tr D3 (n + 1)).get undefA t = (match D3 n, dstAt ps n with
        | true, some d => ((tmAt ps tm0 tr D3 n).set d (tr n).v).get undefA t
        | _, _ => (tmAt ps tm0 tr D3 n).get undefA t) := by
      intro D3
      simp only [tmAt]
      cases D3 n <;> cases dstAt ps n <;> rfl
    rw [step D, step D2]
    cases hd : dstAt ps n with
    | none => cases D n <;> cases D2 n <;> exact ih
    | some d =>
      by_cases e : d = t
      · subst e
        rw [hn hd]
        cases hh : D2 n with
        | false => exact ih
        | true =>
          show ((tmAt ps tm0 tr D n).set d (tr n).v).get undefA d = ((tmAt ps tm0 tr D2 n).set d (tr n).v).get undefA d
          have hhas : (tmAt ps tm0 tr D n).has d = (tmAt ps tm0 tr D2 n).has d := by
            have : ∀ (D3 : Nat → Bool) m, (tmAt ps tm0 tr D3 m).has d = tm0.has d := by
              intro D3 m
              induction m with
              | zero => rfl
              | succ m ihm =>
                simp only [tmAt]
                split
                · rw [T.has_set]; exact ihm
                · exact ihm
            rw [this, this]
          rw [T.get_set_eq, T.get_set_eq, hhas]
      · have hset : ∀ D3 : Nat → Bool, ((tmAt ps tm0 tr D3 n).set d (tr n).v).get undefA t = (tmAt ps tm0 tr D3 n).get undefA t := fun D3 => T.get_set_ne undefA _ d t _ (Ne.symm e)
        cases D n <;> cases D2 n <;> simp only [hset] <;> exact ih

theorem tm_has (D : Nat → Bool) (d : Nat) : ∀ m, (tmAt ps tm0 tr D m).has d = tm0.has d
  | 0 => rfl
  | m + 1 => by
    simp only [tmAt]
    split
    · rw [T.has_set]; exact tm_has D d m
    · exact tm_has D d m

def below (i : Nat) : Nat → Bool := fun k => Nat.blt k i
theorem below_iff {i k : Nat} : below i k = true ↔ k < i := blt_iff _ _

theorem tm_below {i : Nat} : ∀ {n : Nat}, (n ≤ i → tmAt ps tm0 tr (below i) n = tmAt ps tm0 tr yes n) ∧ (i ≤ n → tmAt ps tm0 tr (below i) n = tmAt ps tm0 tr yes i)
  | 0 => ⟨fun _ => rfl, fun h => by have : i = 0 := by omega
                                    rw [this]; rfl⟩
  | n + 1 => by
    obtain ⟨h1, h2⟩ := tm_below (i := i) (n := n)
    refine ⟨fun h => ?_, fun h => ?_⟩
    · have hb : below i n = true := below_iff.2 (by omega)
      simp only [tmAt, hb, yes, h1 (by omega)]
    · rcases Nat.eq_or_lt_of_le h with rfl | hlt
      · have hb : below (n + 1) n = true := below_iff.2 (by omega)
        simp only [tmAt, hb, yes, h1 (by omega)]
      · have hb : below i n = false := by
          cases hh : below i n with
          | false => rfl
          | true => have := below_iff.1 hh; omega
        simp only [tmAt, hb]
        exact h2 (by omega)

theorem tm_yes {i N : Nat} (hi : i ≤ N) : tmAt ps tm0 tr (below i) N = tmAt ps tm0 tr yes i := (tm_below (n := N)).2 hi

/-! one more is done -/
def plus (D : Nat → Bool) (i : Nat) : Nat → Bool := fun k => Nat.beq k i || D k
theorem plus_self (i : Nat) : plus D i i = true := by simp [plus]
theorem plus_ne {i k : Nat} (h : k ≠ i) : plus D i k = D k := by
  have : Nat.beq k i = false := by
    cases e : Nat.beq k i with
    | false => rfl
    | true => exact absurd (Nat.eq_of_beq_eq_true e) h
  simp [plus, this]

/-- the variables, when one more is done: those that write the same are done before, or not at all -/
theorem tm_plus {i d : Nat} (hd : dstAt ps i = some d) (hlate : ∀ k, i < k → dstAt ps k = some d → D k = false) (hhas : tm0.has d = true) (t : Nat) : ∀ {n : Nat}, i < n →
    (tmAt ps tm0 tr (plus D i) n).get undefA t = if t = d then (tr i).v else (tmAt ps tm0 tr D n).get undefA t := by
  intro n hn
  by_cases e : t = d
  · subst e
    rw [if_pos rfl]
    induction n with
    | zero => omega
    | succ n ih =>
      rcases Nat.lt_or_ge i n with h1 | h1
      · have ih := ih h1
        simp only [tmAt]
        rw [plus_ne (by omega : n ≠ i)]
        split
        · rename_i d2 hD hd2
          have hne : t ≠ d2 := fun e => by subst e; rw [hlate n h1 hd2] at hD; cases hD
          rw [T.get_set_ne _ _ _ _ _ hne]; exact ih
        · exact ih
      · have : n = i := by omega
        subst this
        simp only [tmAt, plus_self, hd]
        rw [T.get_set_eq, tm_has, if_pos hhas]
  · rw [if_neg e]
    exact tm_agree fun k hk hdk => plus_ne fun h => by subst h; rw [hd] at hdk; cases hdk; exact e rfl

theorem tm_plus0 {i : Nat} (hd : dstAt ps i = none) (n : Nat) (t : Nat) : (tmAt ps tm0 tr (plus D i) n).get undefA t = (tmAt ps tm0 tr D n).get undefA t :=
  tm_agree fun k _ hdk => plus_ne fun h => by subst h; rw [hd] at hdk; cases hdk

theorem put_get (h : Heap) (b : Nat) (o : AObj) (c : Nat) : (h.put b o).get c = if c = b then (if h.t.has b then some o else none) else h.get c := by
  by_cases e : c = b
  · subst e; rw [if_pos rfl]; exact T.get_set_eq none h.t c (some o)
  · rw [if_neg e]; exact h.get_put_ne b c o e
theorem put_has (h : Heap) (b : Nat) (o : AObj) (c : Nat) : (h.put b o).t.has c = h.t.has c := T.has_set h.t b c (some o)

/-- a new block, when those that touch the heap and lie behind are not done -/
theorem heap_plus {i : Nat} {o : AObj} {N : Nat} (hne : ∀ j k, j < N → k < N → j ≠ k → idxAt ps j ≠ idxAt ps k) (hi : (tr i).al = some o) (hi2 : (tr i).ef = none) (hD : D i = false) (hlate : ∀ k, i < k → (tr k).ef ≠ none → D k = false) : ∀ {n : Nat}, i < n → n ≤ N →
    (∀ c, (heapAt ps base h0 tr (plus D i) n).get c = ((heapAt ps base h0 tr D n).put (base + idxAt ps i) o).get c) ∧ (heapAt ps base h0 tr (plus D i) n).next = (heapAt ps base h0 tr D n).next ∧
      (∀ c, (heapAt ps base h0 tr (plus D i) n).t.has c = (heapAt ps base h0 tr D n).t.has c)
  | n + 1, hn, hN => by
    rcases Nat.lt_or_ge i n with h1 | h1
    · obtain ⟨ih, ih2, ih3⟩ := heap_plus hne hi hi2 hD hlate (n := n) h1 (by omega)
      simp only [heapAt]
      rw [plus_ne (by omega : n ≠ i)]
      split
      · rename_i h' hD2 he
        rw [hlate n h1 (by rw [he]; simp)] at hD2; cases hD2
      · rename_i o2 hD2 he ha
        refine ⟨fun c => ?_, ih2, fun c => by rw [put_has, put_has]; exact ih3 c⟩
        have hd := hne n i (by omega) (by omega) (by omega)
        have hne : base + idxAt ps n ≠ base + idxAt ps i := by omega
        rw [put_get, put_get, put_has, put_get, ih, put_get, ih3]
        by_cases e : c = base + idxAt ps n
        · subst e
          rw [if_pos rfl, if_neg hne, if_pos rfl]
        · rw [if_neg e, if_neg e]
      · exact ⟨ih, ih2, ih3⟩
    · have : n = i := by omega
      subst this
      have e := heap_agree (ps := ps) (base := base) (h0 := h0) (tr := tr) (D := plus D n) (D2 := D) (n := n) fun k hk _ => plus_ne (by omega)
      simp only [heapAt, plus_self, hi, hi2, hD]
      rw [e]
      exact ⟨fun c => rfl, rfl, fun c => put_has _ _ _ _⟩

end
end Go.Ab
end
