/- What is asked of the text of a region that draws its order. The relation between the abstract heap and the model's world; operations that give a value and leave the heap alone. The relation between the abstract heap and the model's. Conditions: none. -/
import Derived.Test.YtbclmkfibgmgdaaGreatDoorRdVC
import Derived.Laws.Cells
import Derived.Laws.Append
import Derived.Control
section
namespace Go.Ab
set_option linter.unusedVariables false
noncomputable section

/-! the check -/
def tmpsOf : List Operand → List Nat
  | [] => []
  | .tmp t :: r => t :: tmpsOf r
  | _ :: r => tmpsOf r
def guardTmp (l : List Oper) (g : Option (Nat × Bool)) : List Nat :=
  match g with
  | some (j, _) => (match (nth l j).bind (·.dst) with | some d => [d] | none => [])
  | none => []
def readsOf (l : List Oper) (o : Oper) : List Nat := guardTmp l o.guard ++ tmpsOf o.op.operands.toList
def hasN (t : Nat) : List Nat → Bool
  | [] => false
  | a :: r => bif Nat.beq t a then true else hasN t r
def sameD (t : Nat) : Option Nat → Bool
  | some u => Nat.beq t u
  | none => false
/-- do two operations, the first of which reads r and writes d, meet at a temporary? -/
def clash (r : List Nat) (d : Option Nat) (r2 : List Nat) (d2 : Option Nat) : Bool :=
  (match d with | some t => hasN t r2 || sameD t d2 | none => false) || (match d2 with | some u => hasN u r | none => false)

structure RI where
  i : Nat
  r : List Nat
  d : Option Nat
def pairsOk (i m : Nat) (r : List Nat) (d : Option Nat) : List RI → Bool
  | [] => true
  | x :: rest => bif (not (Nat.beq x.i i) && (bitAt m x.i || not (clash x.r x.d r d))) then pairsOk i m r d rest else false
def edgesOk (i : Nat) : List Edge → Bool
  | [] => true
  | e :: rest => bif (not (Region.binds .any e) || Nat.blt e.on i) then edgesOk i rest else false
def regGo (L : List Oper) : List Tr → List RI → Bool
  | [], _ => true
  | ⟨i, o, m⟩ :: rest, acc => bif (edgesOk i o.after.toList && pairsOk i m (readsOf L o) o.dst acc) then regGo L rest (⟨i, readsOf L o, o.dst⟩ :: acc) else false
def hasIdx (i : Nat) : List Tr → Bool
  | [] => false
  | t :: r => bif Nat.beq t.i i then true else hasIdx i r
def allIdx (l : List Tr) : Nat → Bool
  | 0 => true
  | n + 1 => bif hasIdx n l then allIdx l n else false
def region (l : List Oper) (o : List Nat) : List Tr := ordered (trs l 0 (.full 0 8)) o
def regChk (o : List Nat) (l : List Oper) : Bool := regGo l (region l o) [] && (allIdx (region l o) (len l) && Nat.beq (len (region l o)) (len l))

def codeChk (q : Nat → List Nat) (c : Code) : Bool :=
  match c with
  | .region id ops draw => not draw || regChk (q id) ops.toList
  | .seq a b => codeChk q a && codeChk q b
  | .cond _ a b => codeChk q a && codeChk q b
  | .rangeFunc _ _ a b => codeChk q a && codeChk q b
  | .block _ a => codeChk q a
  | .loop a => codeChk q a
  | .scope a => codeChk q a
  | _ => true
end

/-! what it says -/
def Closed (l : List Oper) (D : Nat → Prop) : Prop := ∀ j o, D j → l[j]? = some o → ∀ e ∈ o.after.toList, Region.binds .any e = true → D e.on
/-- i is ahead of j in each order -/
def Anc (l : List Oper) (i j : Nat) : Prop := ∀ D : Nat → Prop, Closed l D → D j → D i

theorem bitAt_eq (m i : Nat) : bitAt m i = Nat.testBit m i := by
  unfold bitAt
  rw [Nat.testBit_eq_decide_div_mod_eq]
  have h : Nat.shiftRight m i = m / 2 ^ i := Nat.shiftRight_eq_div_pow m i
  rw [h]
  rw [Bool.eq_iff_iff]
  simp only [Nat.beq_eq, decide_eq_true_eq]
  rfl

theorem bit_or (a b i : Nat) : bitAt (Nat.lor a b) i = (bitAt a i || bitAt b i) := by
  rw [bitAt_eq, bitAt_eq, bitAt_eq]
  exact Nat.testBit_or a b i
theorem bit_one (a i : Nat) : bitAt (Nat.shiftLeft 1 a) i = true → i = a := by
  rw [bitAt_eq]
  have h : Nat.shiftLeft 1 a = 2 ^ a := by show 1 <<< a = _; rw [Nat.one_shiftLeft]
  rw [h]
  intro h
  rw [Nat.testBit_two_pow] at h
  simpa using (of_decide_eq_true h).symm
theorem bit_zero (i : Nat) : bitAt 0 i = false := by rw [bitAt_eq]; exact Nat.zero_testBit i

theorem ancOf_ok {l : List Oper} {j : Nat} {done : T Nat} (hd : ∀ k i, bitAt (done.get 0 k) i = true → Anc l i k) {o : Oper} (ho : l[j]? = some o) {i : Nat}
    (h : bitAt (ancOf done o.after.toList) i = true) : Anc l i j := by
  unfold ancOf at h
  have key : ∀ (es : List Edge) (s : Nat), (∀ e ∈ es, e ∈ o.after.toList) → (bitAt s i = true → Anc l i j) →
      bitAt (es.foldl (fun s e => bif Region.binds .any e then Nat.lor (Nat.lor s (Nat.shiftLeft 1 e.on)) (done.get 0 e.on) else s) s) i = true → Anc l i j := by
    intro es
    induction es with
    | nil => intro s _ hs h; exact hs h
    | cons e es ih =>
      intro s hm hs h
      simp only [List.foldl_cons] at h
      refine ih _ (fun e' he' => hm e' (List.mem_cons_of_mem _ he')) ?_ h
      cases hb : Region.binds .any e with
      | false => simpa using hs
      | true =>
        simp only [cond_true]
        intro hh
        rw [bit_or, bit_or, Bool.or_eq_true, Bool.or_eq_true] at hh
        have he : ∀ D, Closed l D → D j → D e.on := fun D hD hj => hD j o hj ho e (hm e List.mem_cons_self) hb
        rcases hh with (hh | hh) | hh
        · exact hs hh
        · rw [bit_one _ _ hh]; exact he
        · exact fun D hD hj => hd _ _ hh D hD (he D hD hj)
  exact key _ 0 (fun _ h => h) (fun h => by rw [bit_zero] at h; cases h) h

theorem get_set_or {α : Type} (d : α) (t : T α) (k j : Nat) (x : α) : (t.set k x).get d j = t.get d j ∨ (j = k ∧ (t.set k x).get d j = x) ∨ (t.set k x).get d j = d := by
  by_cases h : j = k
  · subst h
    rw [T.get_set_eq]
    split
    · exact .inr (.inl ⟨rfl, rfl⟩)
    · exact .inr (.inr rfl)
  · exact .inl (T.get_set_ne d t k j x h)

theorem trs_ok {l : List Oper} : ∀ (r : List Oper) (i : Nat) (done : T Nat), (∀ j, r[j]? = l[i + j]?) → (∀ k i, bitAt (done.get 0 k) i = true → Anc l i k) →
    ∀ t ∈ trs r i done, l[t.i]? = some t.o ∧ ∀ k, bitAt t.m k = true → Anc l k t.i
  | [], i, done, hr, hd, t, h => by simp [trs] at h
  | o :: r, i, done, hr, hd, t, h => by
    have ho : l[i]? = some o := by have := hr 0; simpa using this.symm
    simp only [trs] at h
    rcases List.mem_cons.1 h with rfl | h
    · exact ⟨ho, fun k hb => ancOf_ok hd ho hb⟩
    · exact trs_ok r (i + 1) _ (fun j => by have := hr (j + 1); rw [List.getElem?_cons_succ] at this; rw [this]; congr 1; omega) (fun k' i' hk => by
        rcases get_set_or 0 done i k' (ancOf done o.after.toList) with h1 | ⟨h1, h2⟩ | h1
        · rw [h1] at hk; exact hd _ _ hk
        · rw [h2] at hk; subst h1; exact ancOf_ok hd ho hk
        · rw [h1, bit_zero] at hk; cases hk) t h

theorem inOrd_mem {l : List Tr} : ∀ {o : List Nat} {t : Tr}, t ∈ inOrd l o → t ∈ l
  | [], t, h => by cases h
  | i :: r, t, h => by
    simp only [inOrd] at h
    split at h
    · rename_i x hx
      rcases List.mem_cons.1 h with rfl | h
      · rw [nth_eq] at hx; exact List.mem_of_getElem? hx
      · exact inOrd_mem h
    · exact inOrd_mem h

theorem region_mem {l : List Oper} {o : List Nat} {t : Tr} (h : t ∈ region l o) : l[t.i]? = some t.o ∧ ∀ k, bitAt t.m k = true → Anc l k t.i := by
  refine trs_ok l 0 (.full 0 8) (fun j => by simp) (fun k i h => by rw [T.get_full, bit_zero] at h; cases h) t ?_
  unfold region ordered at h
  split at h
  · exact h
  · exact inOrd_mem h

/-- what is known of a region, in the order in which it is run -/
structure RegOk (l : List Oper) (ps : List Tr) : Prop where
  at_ : ∀ (p : Nat) (t : Tr), ps[p]? = some t → l[t.i]? = some t.o ∧ (∀ k, bitAt t.m k = true → Anc l k t.i) ∧ (∀ e ∈ t.o.after.toList, Region.binds .any e = true → e.on < t.i)
  pair : ∀ (p p2 : Nat) (t t2 : Tr), p < p2 → ps[p]? = some t → ps[p2]? = some t2 → t.i ≠ t2.i ∧ (clash (readsOf l t.o) t.o.dst (readsOf l t2.o) t2.o.dst = true → Anc l t.i t2.i)
  all : ∀ i, i < l.length → ∃ (p : Nat) (t : Tr), ps[p]? = some t ∧ t.i = i
  len : ps.length = l.length

theorem cond_and {b c : Bool} (h : (bif b then c else false) = true) : b = true ∧ c = true := by
  cases b
  · cases h
  · exact ⟨rfl, h⟩

theorem edgesOk_ok {i : Nat} : ∀ {l : List Edge}, edgesOk i l = true → ∀ e ∈ l, Region.binds .any e = true → e.on < i
  | [], _, e, he, _ => by cases he
  | x :: l, h, e, he, hb => by
    simp only [edgesOk] at h
    obtain ⟨h1, h2⟩ := cond_and h
    rcases List.mem_cons.1 he with rfl | he
    · rw [hb] at h1; simpa [Nat.blt_eq] using h1
    · exact edgesOk_ok h2 e he hb

theorem pairsOk_ok {i m : Nat} {r : List Nat} {d : Option Nat} : ∀ {l : List RI}, pairsOk i m r d l = true → ∀ x ∈ l, x.i ≠ i ∧ (clash x.r x.d r d = true → bitAt m x.i = true)
  | [], _, x, hx => by cases hx
  | y :: l, h, x, hx => by
    simp only [pairsOk] at h
    obtain ⟨h1, h2⟩ := cond_and h
    rcases List.mem_cons.1 hx with rfl | hx
    · simp only [Bool.and_eq_true, Bool.not_eq_true', Bool.or_eq_true] at h1
      refine ⟨fun e => ?_, fun hc => ?_⟩
      · rw [e] at h1; simp at h1
      · rcases h1.2 with h3 | h3
        · exact h3
        · rw [hc] at h3; cases h3
    · exact pairsOk_ok h2 x hx

theorem regGo_ok {L : List Oper} {ps : List Tr} (hps : ∀ t ∈ ps, ∀ k, bitAt t.m k = true → Anc L k t.i) : ∀ (r : List Tr) (n : Nat) (acc : List RI), regGo L r acc = true → (∀ j, r[j]? = ps[n + j]?) →
    (∀ (k : Nat) (t : Tr), k < n → ps[k]? = some t → ⟨t.i, readsOf L t.o, t.o.dst⟩ ∈ acc) →
    (∀ (p : Nat) (t : Tr), n ≤ p → ps[p]? = some t → (∀ e ∈ t.o.after.toList, Region.binds .any e = true → e.on < t.i) ∧
      ∀ (k : Nat) (t2 : Tr), k < p → ps[k]? = some t2 → t2.i ≠ t.i ∧ (clash (readsOf L t2.o) t2.o.dst (readsOf L t.o) t.o.dst = true → Anc L t2.i t.i))
  | [], n, acc, h, hr, ha, j, o, hj, ho => by
    have := hr (j - n)
    rw [show n + (j - n) = j by omega, ho] at this
    simp at this
  | ⟨i, o0, m⟩ :: r, n, acc, h, hr, ha, j, t, hj, ho => by
    simp only [regGo] at h
    obtain ⟨h1, h2⟩ := cond_and h
    rw [Bool.and_eq_true] at h1
    have h0 : ps[n]? = some ⟨i, o0, m⟩ := by have := hr 0; simpa using this.symm
    rcases Nat.eq_or_lt_of_le hj with rfl | hlt
    · rw [ho] at h0; cases h0
      refine ⟨edgesOk_ok h1.1, fun k t2 hk ht2 => ?_⟩
      obtain ⟨g1, g2⟩ := pairsOk_ok h1.2 _ (ha k t2 hk ht2)
      exact ⟨g1, fun hc => hps _ (List.mem_of_getElem? ho) _ (g2 hc)⟩
    · refine regGo_ok hps r (n + 1) _ h2 (fun j => ?_) (fun k t2 hk ht2 => ?_) j t hlt ho
      · have := hr (j + 1); rw [List.getElem?_cons_succ] at this; rw [this]; congr 1; omega
      · rcases Nat.lt_or_ge k n with hk2 | hk2
        · exact List.mem_cons_of_mem _ (ha k t2 hk2 ht2)
        · have : k = n := by omega
          subst this
          rw [h0] at ht2; cases ht2
          exact List.mem_cons_self

theorem hasIdx_ok {i : Nat} : ∀ {l : List Tr}, hasIdx i l = true → ∃ (p : Nat) (t : Tr), l[p]? = some t ∧ t.i = i
  | [], h => by cases h
  | x :: l, h => by
    simp only [hasIdx] at h
    cases hx : Nat.beq x.i i with
    | true => exact ⟨0, x, rfl, Nat.eq_of_beq_eq_true hx⟩
    | false =>
      rw [hx] at h
      obtain ⟨p, t, h1, h2⟩ := hasIdx_ok h
      exact ⟨p + 1, t, by simpa using h1, h2⟩
theorem allIdx_ok {l : List Tr} : ∀ {n : Nat}, allIdx l n = true → ∀ i, i < n → ∃ (p : Nat) (t : Tr), l[p]? = some t ∧ t.i = i
  | 0, _, i, hi => by omega
  | n + 1, h, i, hi => by
    simp only [allIdx] at h
    obtain ⟨h1, h2⟩ := cond_and h
    rcases Nat.lt_or_ge i n with h3 | h3
    · exact allIdx_ok h2 i h3
    · have : i = n := by omega
      subst this; exact hasIdx_ok h1

theorem regChk_ok {o : List Nat} {l : List Oper} (h : regChk o l = true) : RegOk l (region l o) := by
  unfold regChk at h
  rw [Bool.and_eq_true, Bool.and_eq_true] at h
  have hg := regGo_ok (ps := region l o) (fun t ht => (region_mem ht).2) (region l o) 0 [] h.1 (fun j => by simp) (fun k t hk => by omega)
  refine ⟨fun p t ht => ⟨(region_mem (List.mem_of_getElem? ht)).1, (region_mem (List.mem_of_getElem? ht)).2, (hg p t (Nat.zero_le _) ht).1⟩, fun p p2 t t2 hp ht ht2 => (hg p2 t2 (Nat.zero_le _) ht2).2 p t hp ht, ?_, ?_⟩
  · have := allIdx_ok h.2.1
    rw [len_eq] at this
    exact this
  · have := Nat.eq_of_beq_eq_true h.2.2
    rwa [len_eq, len_eq] at this

/-! code -/
noncomputable def itemChk (q : Nat → List Nat) : Item → Bool
  | .code c => codeChk q c
  | .inLoop c => codeChk q c
  | .inScope c => codeChk q c
  | _ => true
def TdOk (q : Nat → List Nat) (l : List Item) : Prop := ∀ i ∈ l, itemChk q i = true

section
variable {q : Nat → List Nat}
theorem TdOk.nil : TdOk q [] := fun _ h => by cases h
theorem TdOk.cons {i : Item} {l : List Item} (h : itemChk q i = true) (hl : TdOk q l) : TdOk q (i :: l) := fun x hx => by
  rcases List.mem_cons.1 hx with rfl | hx
  · exact h
  · exact hl x hx
theorem TdOk.head {i : Item} {l : List Item} (h : TdOk q (i :: l)) : itemChk q i = true := h i List.mem_cons_self
theorem TdOk.tail {i : Item} {l : List Item} (h : TdOk q (i :: l)) : TdOk q l := fun x hx => h x (List.mem_cons_of_mem _ hx)
end

end Go.Ab
end
section
namespace Go.Ab

/-! what is asked of the tables -/
structure EnvOk (E : Env) (P : Program) : Prop where
  types : ∀ t i, E.tt.get none t = some i → P.info? t = some i
  funcs : ∀ f fn, E.ft.get none f = some fn → P.funcs[f]? = some fn
  calls : ∀ f fn, E.ft.get none f = some fn → fn.body.isSome = true → ∀ args w, (callFunc f args).run P w = .ok (.enter f args) w
  mixed : P.follows .mixedOrders = true
  codes : ∀ f fn c, E.ft.get none f = some fn → fn.body = some c → codeChk (E.ord f) c = true
  /-- structs and arrays whose '==' is that of their cells, one by one -/
  eqs : ∀ t (a : List AV), E.eqT t a = true → ∀ (b : List AV) (r : Bool) (xs ys : Array Value) (μ : Mu), eqScalars a b = some r → VRL μ a xs.toList → VRL μ b ys.toList →
    ∀ w, (Op.equal t (.agg xs) (.agg ys)).run P w = .ok r w ∧ P.eqGuardType P.depth t = false
  keys : ∀ t (a : List AV), E.eqT t a = true → ∀ (r : Bool) (xs : Array Value) (μ : Mu), eqScalars a a = some r → VRL μ a xs.toList →
    ∀ e w, (Instr.checkKey e 10000 t (.agg xs)).run P w = .ok () w

section
variable {E : Env} {P : Program} (ok : EnvOk E P)
include ok

theorem under_ok {t : TypeId} {d : TypeDesc} (h : E.under t = some d) : P.underlying t = some d := by
  unfold Env.under at h
  cases e : E.tt.get none t with
  | none => simp [e] at h
  | some i =>
    have hi := ok.types t i e
    rw [e] at h
    simp only [Option.bind_some] at h
    unfold Program.underlying
    rw [hi]
    obtain ⟨desc, a1, a2, a3, a4, a5, a6, a7, a8, a9⟩ := i
    cases desc with
    | named n u =>
      simp only [TypeDesc.base] at h ⊢
      cases e' : E.tt.get none u with
      | none => simp [e'] at h
      | some j => simp [e'] at h; rw [ok.types u j e']; simp [h]
    | _ => simpa [TypeDesc.base] using h

theorem size_ok {t : TypeId} {n : Nat} (h : E.size t = some n) (w : World) : (sizeOf t).run P w = .ok n w := by
  unfold Env.size at h
  cases e : E.tt.get none t with
  | none => simp [e] at h
  | some i => simp [e] at h; subst h; simp [sizeOf, typeInfo, ok.types t i e]

theorem info_ok {t : TypeId} {i : TypeInfo} (h : E.tt.get none t = some i) (w : World) : (typeInfo t).run P w = .ok i w := by
  simp [typeInfo, ok.types t i h]

theorem runUnder {t : TypeId} {d : TypeDesc} (h : E.under t = some d) (w : World) : (underlying t).run P w = .ok d w := by
  simp [underlying, under_ok ok h]

theorem agg_ok {t : TypeId} {g : Bool} (h : E.isAgg t = some g) (w : World) : (isAgg t).run P w = .ok g w := by
  unfold Env.isAgg at h
  cases e : E.under t with
  | none => simp [e] at h
  | some d =>
    rw [e] at h
    simp only [Option.map_some, Option.some.injEq] at h
    simp only [isAgg, Sem.run_bind, runUnder ok e, Result.andThen_ok]
    subst h
    cases d <;> rfl

end

theorem ofValue_ok : ∀ (d : Nat) (v : Value) (a : AV) (μ : Mu), ofValue d v = some a → VR μ a v := by
  intro d
  induction d with
  | zero => intro v a μ h; simp [ofValue] at h
  | succ d ih =>
    have ihL : ∀ (l : List Value) (r : List AV) (μ : Mu), l.mapM (ofValue d) = some r → VRL μ r l := by
      intro l
      induction l with
      | nil => intro r μ h; simp at h; subst h; exact .nil
      | cons x l ihl =>
        intro r μ h
        simp only [List.mapM_cons, Option.bind_eq_bind] at h
        cases hx : ofValue d x with
        | none => simp [hx] at h
        | some a =>
          cases hl : l.mapM (ofValue d) with
          | none => simp [hx, hl] at h
          | some q => simp [hx, hl] at h; subst h; exact .cons (ih _ _ _ hx) (ihl _ _ hl)
    intro v a μ h
    cases v with
    | bool b => simp [ofValue] at h; subst h; exact .bool b
    | int k n => simp [ofValue] at h; subst h; exact .int k n
    | string s => simp [ofValue] at h; subst h; exact .str s
    | pointer p => cases p <;> simp [ofValue] at h; subst h; exact .nilPtr
    | slice p n c =>
      cases p with
      | some p => simp [ofValue] at h
      | none =>
        cases n with
        | succ n => simp [ofValue] at h
        | zero => cases c <;> simp [ofValue] at h; subst h; exact .nilSlice
    | map r => cases r <;> simp [ofValue] at h; subst h; exact .nilMap
    | nilFunc => simp [ofValue] at h; subst h; exact .nilFunc
    | nilIface => simp [ofValue] at h; subst h; exact .nilIface
    | iface t v =>
      simp only [ofValue] at h
      cases hx : ofValue d v with
      | none => simp [hx] at h
      | some x => simp [hx] at h; subst h; exact .iface (ih _ _ _ hx)
    | agg cs =>
      simp only [ofValue] at h
      cases hx : cs.toList.mapM (ofValue d) with
      | none => simp [hx] at h
      | some x => simp [hx] at h; subst h; exact .agg (ihL _ _ _ hx)
    | tuple cs =>
      simp only [ofValue] at h
      cases hx : cs.toList.mapM (ofValue d) with
      | none => simp [hx] at h
      | some x => simp [hx] at h; subst h; exact .tup (ihL _ _ _ hx)
    | func fn a b =>
      cases fn with
      | func f =>
        simp only [ofValue] at h
        cases hx : a.toList.mapM (ofValue d) with
        | none => simp [hx] at h
        | some x =>
          cases hy : b.toList.mapM (ofValue d) with
          | none => simp [hx, hy] at h
          | some y => simp [hx, hy] at h; subst h; exact .func (ihL _ _ _ hx) (ihL _ _ _ hy)
      | _ => simp [ofValue] at h
    | _ => simp [ofValue] at h

theorem ofValue_nj : ∀ (d : Nat) (v : Value), ofValue d v ≠ some .junk
  | 0, v, h => by simp [ofValue] at h
  | d + 1, v, h => by
    unfold ofValue at h
    split at h <;> try (simp at h; done)
    split at h <;> simp at h

theorem zero_nj {E : Env} {t : TypeId} {z : AV} (h : E.zero t = some z) : z ≠ .junk := by
  rintro rfl
  unfold Env.zero at h
  cases e : E.tt.get none t with
  | none => simp [e] at h
  | some i =>
    simp only [e, Option.bind_some] at h
    cases hz : i.zero with
    | none => simp [hz] at h
    | some v => simp [hz] at h; exact ofValue_nj _ _ h

theorem zero_ok {E : Env} {P : Program} (ok : EnvOk E P) {t : TypeId} {z : AV} (h : E.zero t = some z) (μ : Mu) (w : World) :
    ∃ v, (zeroValue t).run P w = .ok v w ∧ VR μ z v := by
  unfold Env.zero at h
  cases e : E.tt.get none t with
  | none => simp [e] at h
  | some i =>
    simp only [e, Option.bind_some] at h
    cases hz : i.zero with
    | none => simp [hz] at h
    | some v =>
      simp [hz] at h
      exact ⟨v, by simp [zeroValue, typeInfo, ok.types t i e, hz], ofValue_ok _ _ _ μ h⟩

/-! frames' variables -/
structure TmR (μ : Mu) (tm : T AV) (tmps : Array Value) : Prop where
  get : ∀ t, VR μ (tm.get undefA t) (tmps.getD t undef)
  has : ∀ t, t < tmps.size → tm.has t = true

theorem TmR.mono {μ ν : Mu} (h : μ.le ν) {tm : T AV} {tmps : Array Value} (r : TmR μ tm tmps) : TmR ν tm tmps := ⟨fun t => (r.get t).mono h, r.has⟩

theorem vr_undef (μ : Mu) : VR μ undefA undef := .tup .nil

theorem TmR.set {μ : Mu} {tm : T AV} {tmps : Array Value} (r : TmR μ tm tmps) {d : Nat} {v : AV} {v' : Value} (hd : d < tmps.size) (hv : VR μ v v') :
    TmR μ (tm.set d v) (tmps.setIfInBounds d v') := by
  refine ⟨fun t => ?_, fun t ht => by rw [T.has_set]; exact r.has t (by simpa using ht)⟩
  by_cases e : t = d
  · subst e
    rw [T.get_set_eq, if_pos (r.has t hd)]
    have : (tmps.setIfInBounds t v').getD t undef = v' := by simp [hd]
    rw [this]; exact hv
  · rw [T.get_set_ne _ _ _ _ _ e]
    have : (tmps.setIfInBounds d v').getD t undef = tmps.getD t undef := by
      simp [Array.getElem?_setIfInBounds_ne (Ne.symm e)]
    rw [this]; exact r.get t

theorem has_full {α : Type} (d : α) : ∀ (n k : Nat), k < 2 ^ n → (T.full d n).has k = true
  | 0, k, h => by
    have : k = 0 := by simp at h; exact h
    subst this; rfl
  | n + 1, k, h => by
    show (T.node (T.full d n) (T.full d n)).has k = true
    have h2 : k / 2 < 2 ^ n := by rw [Nat.pow_succ] at h; omega
    simp only [T.has]
    split <;> exact has_full d n _ h2

theorem has_depth {nt t : Nat} (h : nt ≤ 4096) (ht : t < nt) : (T.full undefA (depthOf nt)).has t = true := by
  apply has_full
  unfold depthOf
  cases h1 : Nat.ble nt 16 with
  | true => have := Nat.le_of_ble_eq_true h1; simp only [cond_true]; omega
  | false =>
    cases h2 : Nat.ble nt 64 with
    | true => have := Nat.le_of_ble_eq_true h2; simp only [cond_true, cond_false]; omega
    | false =>
      cases h3 : Nat.ble nt 256 with
      | true => have := Nat.le_of_ble_eq_true h3; simp only [cond_true, cond_false]; omega
      | false => simp only [cond_false]; omega

theorem sets_rel {μ : Mu} : ∀ (l : List AV) (l' : List Value), VRL μ l l' → ∀ (k : Nat) (tm : T AV) (tmps : Array Value), TmR μ tm tmps → k + l.length ≤ tmps.size →
    TmR μ (T.sets l k tm) ((l'.foldl (fun (p : Array Value × Nat) x => (p.1.setIfInBounds p.2 x, p.2 + 1)) (tmps, k)).1)
  | _, _, .nil, k, tm, tmps, r, _ => r
  | _, _, .cons hv hl, k, tm, tmps, r, hk => by
    simp only [List.length_cons] at hk
    exact sets_rel _ _ hl (k + 1) _ _ (r.set (by omega) hv) (by simp; omega)

theorem foldl_sets : ∀ (l pre : List Value) (rest : List Value), l.length ≤ rest.length →
    (l.foldl (fun (p : Array Value × Nat) x => (p.1.setIfInBounds p.2 x, p.2 + 1)) ((pre ++ rest).toArray, pre.length)).1 = (pre ++ l ++ rest.drop l.length).toArray
  | [], pre, rest, _ => by simp
  | x :: l, pre, [], h => by simp at h
  | x :: l, pre, y :: rest, h => by
    simp only [List.foldl_cons]
    have e : (pre ++ y :: rest).toArray.setIfInBounds pre.length x = ((pre ++ [x]) ++ rest).toArray := by
      simp
    rw [e]
    have := foldl_sets l (pre ++ [x]) rest (by simpa using h)
    simp only [List.length_append, List.length_cons, List.length_nil, Nat.zero_add] at this
    rw [this]; simp

theorem replicate_rel (μ : Mu) (nt : Nat) (h : nt ≤ 4096) : TmR μ (T.full undefA (depthOf nt)) (Array.replicate nt undef) := by
  refine ⟨fun t => ?_, fun t ht => has_depth h (by simpa using ht)⟩
  rw [T.get_full]
  have : (Array.replicate nt undef).getD t undef = undef := by
    simp only [Array.getD_eq_getD_getElem?]
    cases hh : (Array.replicate nt undef)[t]? with
    | none => rfl
    | some v => have := Array.getElem?_eq_some_iff.1 hh; obtain ⟨hlt, hv⟩ := this; simp at hv; simp [hv]
  rw [this]; exact vr_undef μ

/-- the variables of a frame that is entered -/
theorem enter_rel {μ : Mu} {args : List AV} {args' : Array Value} {nt : Nat} (ha : VRL μ args args'.toList) (hn : args.length ≤ nt) (h : nt ≤ 4096) :
    TmR μ (T.sets args 0 (T.full undefA (depthOf nt))) (args' ++ Array.replicate (nt - args'.size) undef) := by
  have h1 := sets_rel args args'.toList ha 0 _ _ (replicate_rel μ nt h) (by simpa using hn)
  have hl : args.length = args'.toList.length := ha.length
  have h2 := foldl_sets args'.toList [] (List.replicate nt undef) (by simp at hl ⊢; omega)
  simp only [List.nil_append, List.length_nil] at h2
  have h3 : (List.replicate nt undef).toArray = Array.replicate nt undef := by simp
  rw [h3] at h2
  rw [h2] at h1
  have h4 : (args'.toList ++ (List.replicate nt undef).drop args'.toList.length).toArray = args' ++ Array.replicate (nt - args'.size) undef := by
    apply Array.toList_inj.1
    simp
  rw [h4] at h1
  exact h1

theorem operand_rel {μ : Mu} {tm : T AV} {a : Act} (r : TmR μ tm a.tmps) (x : Operand) : VR μ (operand tm x) (a.eval x) := by
  cases x with
  | tmp t => exact r.get t
  | const v =>
    show VR μ (orJunk (ofValue 6 v)) v
    cases h : ofValue 6 v with
    | none => exact .junk v
    | some u => exact ofValue_ok _ _ _ μ h
  | global g => exact .junk _
  | func f => exact .func .nil .nil

theorem operands_rel {μ : Mu} {tm : T AV} {a : Act} (r : TmR μ tm a.tmps) : ∀ (l : List Operand), VRL μ (operands tm l) (l.map a.eval)
  | [] => .nil
  | x :: l => .cons (operand_rel r x) (operands_rel r l)

end Go.Ab
end
section
namespace Go.Ab

/-! keys -/
theorem natsEq_iff : ∀ (a b : List Nat), natsEq a b = true ↔ a = b
  | [], [] => by simp [natsEq]
  | [], _ :: _ => by simp [natsEq]
  | _ :: _, [] => by simp [natsEq]
  | a :: x, b :: y => by simp [natsEq, natsEq_iff x y]
theorem boolEq_iff (a b : Bool) : boolEq a b = true ↔ a = b := by cases a <;> cases b <;> simp [boolEq]
theorem intEq_iff (a b : Int) : intEq a b = true ↔ a = b := by
  cases a <;> cases b <;> simp [intEq] <;> omega
theorem intEq_eq (a b : Int) : intEq a b = (a == b) := by
  rw [Bool.eq_iff_iff, intEq_iff]; simp
theorem natsEq_eq (a b : List Nat) : natsEq a b = (a == b) := by
  rw [Bool.eq_iff_iff, natsEq_iff]; simp
theorem boolEq_eq (a b : Bool) : boolEq a b = (a == b) := by cases a <;> cases b <;> rfl

theorem eqScalars_true : ∀ (a b : List AV), eqScalars a b = some true → a = b
  | [], [], _ => rfl
  | .int k m :: x, .int l n :: y, h => by
    simp only [eqScalars] at h
    split at h
    · rename_i hk
      cases hi : intEq m n with
      | false => simp [hi] at h
      | true => simp [hi] at h; rw [eqScalars_true x y h, hk, (intEq_iff m n).1 hi]
    · cases h
  | .str m :: x, .str n :: y, h => by
    simp only [eqScalars] at h
    cases hi : natsEq m n with
    | false => simp [hi] at h
    | true => simp [hi] at h; rw [eqScalars_true x y h, (natsEq_iff m n).1 hi]
  | .bool m :: x, .bool n :: y, h => by
    simp only [eqScalars] at h
    cases hi : boolEq m n with
    | false => simp [hi] at h
    | true => simp [hi] at h; rw [eqScalars_true x y h, (boolEq_iff m n).1 hi]

theorem intEq_comm (a b : Int) : intEq a b = intEq b a := by rw [Bool.eq_iff_iff, intEq_iff, intEq_iff]; exact eq_comm
theorem natsEq_comm (a b : List Nat) : natsEq a b = natsEq b a := by rw [Bool.eq_iff_iff, natsEq_iff, natsEq_iff]; exact eq_comm
theorem boolEq_comm (a b : Bool) : boolEq a b = boolEq b a := by cases a <;> cases b <;> rfl

theorem eqScalars_comm : ∀ (a b : List AV) (r : Bool), eqScalars a b = some r → eqScalars b a = some r
  | [], [], r, h => h
  | .int k m :: x, .int l n :: y, r, h => by
    simp only [eqScalars] at h ⊢
    split at h
    · rename_i hk
      rw [if_pos hk.symm, intEq_comm n m]
      cases hi : intEq m n with
      | false => simpa [hi] using h
      | true => simp [hi] at h; simp [eqScalars_comm x y r h]
    · cases h
  | .str m :: x, .str n :: y, r, h => by
    simp only [eqScalars] at h ⊢
    rw [natsEq_comm n m]
    cases hi : natsEq m n with
    | false => simpa [hi] using h
    | true => simp [hi] at h; simp [eqScalars_comm x y r h]
  | .bool m :: x, .bool n :: y, r, h => by
    simp only [eqScalars] at h ⊢
    rw [boolEq_comm n m]
    cases hi : boolEq m n with
    | false => simpa [hi] using h
    | true => simp [hi] at h; simp [eqScalars_comm x y r h]

theorem keyEq_true {a b : AV} (h : keyEq a b = some true) : a = b := by
  unfold keyEq at h
  split at h
  · simp at h; rw [(natsEq_iff _ _).1 h]
  · split at h
    · rename_i hk; simp at h; rw [hk, (intEq_iff _ _).1 h]
    · cases h
  · simp at h; rw [(boolEq_iff _ _).1 h]
  · rw [eqScalars_true _ _ h]
  · cases h

theorem keyEq_comm {a b : AV} {r : Bool} (h : keyEq a b = some r) : keyEq b a = some r := by
  unfold keyEq at h
  split at h
  · simpa [keyEq, natsEq_comm] using h
  · split at h
    · rename_i hk; simp only [keyEq, if_pos hk.symm]; simpa [intEq_comm] using h
    · cases h
  · simpa [keyEq, boolEq_comm] using h
  · exact eqScalars_comm _ _ _ h
  · cases h

/-! maps' entries -/
inductive ER (μ : Mu) : List (AV × AV) → List MapEntry → Prop
  | nil : ER μ [] []
  | cons {k v : AV} {e : MapEntry} {l : List (AV × AV)} {l' : List MapEntry} : VR μ k e.key → VR μ v e.val → ER μ l l' → ER μ ((k, v) :: l) (e :: l')

theorem ER.mono {μ ν : Mu} (h : μ.le ν) : ∀ {l : List (AV × AV)} {l' : List MapEntry}, ER μ l l' → ER ν l l'
  | _, _, .nil => .nil
  | _, _, .cons a b c => .cons (a.mono h) (b.mono h) (ER.mono h c)

theorem ER.length {μ : Mu} : ∀ {l : List (AV × AV)} {l' : List MapEntry}, ER μ l l' → l.length = l'.length
  | _, _, .nil => rfl
  | _, _, .cons _ _ c => by simp [ER.length c]

def Apart (a b : AV × AV) : Prop := keyEq a.1 b.1 = some false

structure MapR (μ : Mu) (es : List (AV × AV)) (es' : Array MapEntry) (clock : Nat) : Prop where
  ex : ∃ l, l.Perm es'.toList ∧ ER μ es l
  apart : es.Pairwise Apart
  self : ∀ x ∈ es, ∃ r, keyEq x.1 x.1 = some r
  born : (es'.toList.map (·.born)).Nodup
  old : ∀ e ∈ es'.toList, e.born < clock

theorem MapR.mono {μ ν : Mu} (h : μ.le ν) {es : List (AV × AV)} {es' : Array MapEntry} {clock : Nat} (r : MapR μ es es' clock) : MapR ν es es' clock :=
  ⟨let ⟨l, a, b⟩ := r.ex; ⟨l, a, b.mono h⟩, r.apart, r.self, r.born, r.old⟩

/-! loops and deferred calls -/
inductive DR (μ : Mu) : ADef → Deferred → Prop
  | coll {r : Nat} {p : Pl} : μ r = some p → DR μ (.coll r) { target := .collected p.blk, args := #[] }
  | call {f : FuncId} {args : List AV} {cap a : Array Value} : VRL μ args (a.toList ++ cap.toList) → DR μ (.call f args) { target := .fn (.func f) cap, args := a }
inductive DRL (μ : Mu) : List ADef → List Deferred → Prop
  | nil : DRL μ [] []
  | cons {a : ADef} {d : Deferred} {l : List ADef} {l' : List Deferred} : DR μ a d → DRL μ l l' → DRL μ (a :: l) (d :: l')

theorem DR.mono {μ ν : Mu} (h : μ.le ν) {a : ADef} {d : Deferred} (r : DR μ a d) : DR ν a d := by
  cases r with
  | coll e => exact .coll (h _ _ e)
  | call v => exact .call (v.mono h)
theorem DRL.mono {μ ν : Mu} (h : μ.le ν) : ∀ {a : List ADef} {d : List Deferred}, DRL μ a d → DRL ν a d
  | _, _, .nil => .nil
  | _, _, .cons a l => .cons (a.mono h) (DRL.mono h l)
theorem DRL.append {μ : Mu} : ∀ {a b : List ADef} {d e : List Deferred}, DRL μ a d → DRL μ b e → DRL μ (a ++ b) (d ++ e)
  | _, _, _, _, .nil, h => h
  | _, _, _, _, .cons a l, h => .cons a (DRL.append l h)

def FrOk (fr : Nat × Nat) (n : Nat) : Prop := fr = (0, 0) ∨ fr = (n, n + 1)

/-- an abstract object and the model's -/
inductive OR' (E : Env) (μ : Mu) (p : Pl) : AObj → Obj → Prop
  | cells {c : List AV} {e : TypeId} {op : Bool} {pre mid post : List Value} {fr : Nat × Nat} : pre.length = p.sh → VRL μ c mid → (op = false → p.sh = 0 ∧ post = []) → p.op = op →
      (op = true → c.length = p.tot ∧ p.ext * p.esz ≤ post.length ∧ E.size e = some p.esz) → FrOk fr (pre ++ mid ++ post).length →
      OR' E μ p (.cells c e op) (.cells (pre ++ mid ++ post).toArray e fr)
  | map {es : List (AV × AV)} {mods : Nat} {es' : Array MapEntry} {clock : Nat} : MapR μ es es' clock → OR' E μ p (.map es mods) (.map es' clock)
  | str {s : ByteArray} {pos : Nat} : p.sh = 0 → OR' E μ p (.strIter (bytesL s) pos) (.stringIter s pos)
  | noIter {mods : Nat} {seen : List AV} {a : Nat} {b : Array Nat} {c : Nat} : p.sh = 0 → OR' E μ p (.mapIter none mods seen) (.mapIter none a b c)
  | iter {m : Nat} {pm : Pl} {mods : Nat} {seen : List AV} {a : Nat} {b : Array Nat} {c : Nat} : p.sh = 0 → μ m = some pm → OR' E μ p (.mapIter (some m) mods seen) (.mapIter (some pm.blk) a b c)
  | loop {st : LoopState} {pend : Option Code} {fn : FuncId} {tm : T AV} {nt : Nat} {params : Array Nat} {assign body : Code} {d : Nat} {pd : Pl} {tmps : Array Value} :
      TmR μ tm tmps → tmps.size = nt → μ d = some pd → (codeChk (E.ord fn) assign = true ∧ codeChk (E.ord fn) body = true ∧ ∀ q c, pend = some c → codeChk q c = true) →
      OR' E μ p (.loop st pend fn tm nt params.toList assign body d) (.loop { state := st, pending := pend, fn, tmps, params, assign, body, defers := pd.blk })
  | deferred {ds : List ADef} {ds' : List Deferred} : DRL μ ds ds' → OR' E μ p (.deferred false ds) (.deferred (some ds'))
  | taken {ds : List ADef} : OR' E μ p (.deferred true ds) (.deferred none)
  | ro {c : List AV} {e : TypeId} {pre mid post : List Value} {fr : Nat × Nat} : pre.length = p.sh → VRL μ c mid → OR' E μ p (.ro c) (.cells (pre ++ mid ++ post).toArray e fr)

theorem OR'.mono {E : Env} {μ ν : Mu} (h : μ.le ν) {p : Pl} {o : AObj} {ob : Obj} (r : OR' E μ p o ob) : OR' E ν p o ob := by
  cases r with
  | cells a b c d e f => exact .cells a (b.mono h) c d e f
  | map r => exact .map (r.mono h)
  | str z => exact .str z
  | noIter z => exact .noIter z
  | iter z e => exact .iter z (h _ _ e)
  | loop a b c k => exact .loop (a.mono h) b (h _ _ c) k
  | deferred r => exact .deferred (r.mono h)
  | taken => exact .taken
  | ro a b => exact .ro a (b.mono h)

/-- what an iterator over a map has seen -/
def SeenR (μ : Mu) (es' : Array MapEntry) (sb : Array Nat) (seen : List AV) : Prop :=
  ∃ l : List MapEntry, (∀ e ∈ l, e ∈ es'.toList) ∧ sb.toList.reverse = l.map (·.born) ∧ VRL μ seen (l.map (·.key)) ∧ ∀ k ∈ seen, ∃ r, keyEq k k = some r

def IterR (μ : Mu) (hp : Array Obj) (ib mb : Nat) (mods : Nat) (seen : List AV) (mo : Nat) : Prop :=
  mods ≤ mo ∧ (mods = mo → ∀ es' clock since sb stepped, hp[mb]? = some (.map es' clock) → hp[ib]? = some (.mapIter (some mb) since sb stepped) →
    since = clock ∧ (seen ≠ [] → stepped = clock) ∧ SeenR μ es' sb seen)

/-- the model's blocks that may be touched, and those that are read only -/
structure Own where
  o : Nat → Prop
  ro : Nat → Prop
instance : CoeFun Own (fun _ => Nat → Prop) := ⟨Own.o⟩
def AObj.owned : AObj → Bool
  | .ro _ => false
  | _ => true
/-- the abstract heap and the model's; O: the model's blocks that may be touched -/
structure HRel (E : Env) (O : Own) (μ : Mu) (h : Heap) (hp : Array Obj) : Prop where
  obj : ∀ b o, h.get b = some o → ∃ p ob, μ b = some p ∧ hp[p.blk]? = some ob ∧ OR' E μ p o ob
  inj : ∀ b b' o o' p p', h.get b = some o → h.get b' = some o' → (o.owned = true ∨ o'.owned = true) → μ b = some p → μ b' = some p' → p.blk = p'.blk → b = b'
  own : ∀ b o p, h.get b = some o → o.owned = true → μ b = some p → O p.blk
  size : ∀ b p, μ b = some p → p.blk < hp.size
  up : ∀ c, hp.size ≤ c → O c
  iter : ∀ b m mods seen p pm es mo, h.get b = some (.mapIter (some m) mods seen) → h.get m = some (.map es mo) → μ b = some p → μ m = some pm → IterR μ hp p.blk pm.blk mods seen mo
  ro : ∀ b c p, h.get b = some (.ro c) → μ b = some p → O.ro p.blk
  nro : ∀ c, O.ro c → ¬ O c

def AObj.still : AObj → Bool
  | .map .. | .mapIter .. | .ro .. => false
  | _ => true
theorem AObj.still_owned {o : AObj} (h : o.still = true) : o.owned = true := by cases o <;> first | rfl | cases h

section
variable {E : Env} {O : Own} {μ : Mu} {h : Heap} {hp : Array Obj}

theorem HRel.at {b : Nat} {o : AObj} {p : Pl} (r : HRel E O μ h hp) (hb : h.get b = some o) (hm : μ b = some p) : ∃ ob, hp[p.blk]? = some ob ∧ OR' E μ p o ob := by
  obtain ⟨q, ob, hq, ho, hr⟩ := r.obj b o hb
  rw [hm] at hq; cases hq
  exact ⟨ob, ho, hr⟩

theorem HRel.where_ {b : Nat} {o : AObj} (r : HRel E O μ h hp) (hb : h.get b = some o) : ∃ p ob, μ b = some p ∧ hp[p.blk]? = some ob ∧ OR' E μ p o ob := r.obj b o hb

/-- a block is written: its object turns, no map's and no iterator's -/
theorem HRel.put {b : Nat} {o o2 : AObj} {p : Pl} {ob2 : Obj} (r : HRel E O μ h hp) (hb : h.get b = some o) (hm : μ b = some p) (_hs : o.still = true) (hs2 : o2.still = true)
    (ho2 : OR' E μ p o2 ob2) : HRel E O μ (h.put b o2) (hp.setIfInBounds p.blk ob2) := by
  have hlt : p.blk < hp.size := r.size b p hm
  have hother : ∀ c q, c ≠ b → ∀ x, h.get c = some x → μ c = some q → (hp.setIfInBounds p.blk ob2)[q.blk]? = hp[q.blk]? := by
    intro c q hc x hx hq
    have : p.blk ≠ q.blk := fun e => hc (r.inj c b x o q p hx hb (.inr (AObj.still_owned _hs)) hq hm e.symm)
    rw [Array.getElem?_setIfInBounds_ne this]
  have hget : ∀ c x, (h.put b o2).get c = some x → (c = b ∧ x = o2) ∨ (c ≠ b ∧ h.get c = some x) := by
    intro c x hx
    by_cases hc : c = b
    · subst hc; exact .inl ⟨rfl, h.get_put_some c o2 hx⟩
    · rw [h.get_put_ne b c o2 hc] at hx; exact .inr ⟨hc, hx⟩
  refine ⟨?_, ?_, ?_, ?_, ?_, ?_, ?_, r.nro⟩
  · intro c x hx
    rcases hget c x hx with ⟨rfl, rfl⟩ | ⟨hc, hx'⟩
    · exact ⟨p, ob2, hm, by simp [hlt], ho2⟩
    · obtain ⟨q, ob, hq, hqo, hqr⟩ := r.obj c x hx'
      exact ⟨q, ob, hq, by rw [hother c q hc x hx' hq]; exact hqo, hqr⟩
  · intro c c' x x' q q' hx hx' how hq hq' e
    have f : ∀ c x, (h.put b o2).get c = some x → ∃ y, h.get c = some y ∧ (x.owned = true → y.owned = true) := by
      intro c x hx
      rcases hget c x hx with ⟨rfl, _⟩ | ⟨_, hx'⟩
      · exact ⟨o, hb, fun _ => AObj.still_owned _hs⟩
      · exact ⟨x, hx', id⟩
    obtain ⟨y, hy, hyo⟩ := f c x hx
    obtain ⟨y', hy', hyo'⟩ := f c' x' hx'
    exact r.inj c c' y y' q q' hy hy' (how.imp hyo hyo') hq hq' e
  · intro c x q hx how hq
    rcases hget c x hx with ⟨rfl, _⟩ | ⟨_, hx'⟩
    · rw [hm] at hq; cases hq; exact r.own _ o _ hb (AObj.still_owned _hs) hm
    · exact r.own c x q hx' how hq
  · intro c q hq; simpa using r.size c q hq
  · intro c hc; exact r.up c (by simpa using hc)
  · intro c m mods seen q pm es mo hc hmm hq hpm
    rcases hget c _ hc with ⟨rfl, hh⟩ | ⟨hcn, hc'⟩
    · subst hh; simp [AObj.still] at hs2
    · rcases hget m _ hmm with ⟨rfl, hh⟩ | ⟨hmn, hm'⟩
      · subst hh; simp [AObj.still] at hs2
      · have hi := r.iter c m mods seen q pm es mo hc' hm' hq hpm
        refine ⟨hi.1, fun e es' clock since sb stepped h1 h2 => hi.2 e es' clock since sb stepped ?_ ?_⟩
        · rw [hother m pm hmn _ hm' hpm] at h1; exact h1
        · rw [hother c q hcn _ hc' hq] at h2; exact h2
  · intro c x q hx hq
    rcases hget c _ hx with ⟨rfl, hh⟩ | ⟨_, hx'⟩
    · subst hh; simp [AObj.still] at hs2
    · exact r.ro c x q hx' hq

theorem HRel.drop (r : HRel E O μ h hp) (b : Nat) : HRel E O μ (h.drop b) hp := by
  have hget : ∀ c x, (h.drop b).get c = some x → h.get c = some x := by
    intro c x hx
    by_cases hc : c = b
    · subst hc; rw [h.get_drop c] at hx; cases hx
    · rw [h.get_drop_ne b c hc] at hx; exact hx
  exact ⟨fun c x hx => r.obj c x (hget c x hx), fun c c' x x' q q' hx hx' => r.inj c c' x x' q q' (hget _ _ hx) (hget _ _ hx'), fun c x q hx => r.own c x q (hget c x hx), r.size, r.up,
    fun c m mods seen q pm es mo hc hm => r.iter c m mods seen q pm es mo (hget _ _ hc) (hget _ _ hm), fun c x q hx => r.ro c x q (hget _ _ hx), r.nro⟩

/-- a heap that has no more, and the rest the same, serves too -/
theorem HRel.less {h2 : Heap} (r : HRel E O μ h hp) (hl : ∀ b o, h2.get b = some o → h.get b = some o) : HRel E O μ h2 hp :=
  ⟨fun c x hx => r.obj c x (hl c x hx), fun c c' x x' q q' hx hx' => r.inj c c' x x' q q' (hl _ _ hx) (hl _ _ hx'), fun c x q hx => r.own c x q (hl c x hx), r.size, r.up,
    fun c m mods seen q pm es mo hc hm => r.iter c m mods seen q pm es mo (hl _ _ hc) (hl _ _ hm), fun c x q hx => r.ro c x q (hl _ _ hx), r.nro⟩

/-- a new block -/
theorem HRel.add {b : Nat} {o : AObj} {p : Pl} {ob : Obj} (r : HRel E O μ h hp) (hn : μ b = none) (hp' : p.blk = hp.size) (ho : OR' E (μ.add b p) p o ob)
    (hi : ∀ m mods seen, o = .mapIter (some m) mods seen → ∀ pm es mo, h.get m = some (.map es mo) → μ m = some pm → IterR (μ.add b p) (hp.push ob) p.blk pm.blk mods seen mo) (how : o.owned = true := by rfl) :
    HRel E O (μ.add b p) (h.put b o) (hp.push ob) := by
  have hle : μ.le (μ.add b p) := Mu.le_add hn
  have hgb : h.get b = none := by
    cases e : h.get b with
    | none => rfl
    | some x => obtain ⟨q, _, hq, _⟩ := r.obj b x e; rw [hn] at hq; cases hq
  have hget : ∀ c x, (h.put b o).get c = some x → (c = b ∧ x = o) ∨ (c ≠ b ∧ h.get c = some x) := by
    intro c x hx
    by_cases hc : c = b
    · subst hc; exact .inl ⟨rfl, h.get_put_some c o hx⟩
    · rw [h.get_put_ne b c o hc] at hx; exact .inr ⟨hc, hx⟩
  have hmu : ∀ c q, c ≠ b → (μ.add b p) c = some q → μ c = some q := by
    intro c q hc e; simpa [Mu.add, hc] using e
  have hself : ∀ q, (μ.add b p) b = some q → q = p := by intro q e; simp [Mu.add] at e; exact e.symm
  have hold : ∀ c q, μ c = some q → (hp.push ob)[q.blk]? = hp[q.blk]? := by
    intro c q hq
    have hlt := r.size c q hq
    rw [Array.getElem?_push_lt hlt, Array.getElem?_eq_getElem hlt]
  refine ⟨?_, ?_, ?_, ?_, ?_, ?_, ?_, r.nro⟩
  · intro c x hx
    rcases hget c x hx with ⟨rfl, rfl⟩ | ⟨hc, hx'⟩
    · exact ⟨p, ob, Mu.add_self, by rw [hp']; simp, ho⟩
    · obtain ⟨q, ob', hq, hqo, hqr⟩ := r.obj c x hx'
      exact ⟨q, ob', hle _ _ hq, by rw [hold c q hq]; exact hqo, hqr.mono hle⟩
  · intro c c' x x' q q' hx hx' how hq hq' e
    rcases hget c x hx with ⟨rfl, rfl⟩ | ⟨hc, hx1⟩ <;> rcases hget c' x' hx' with ⟨rfl, rfl⟩ | ⟨hc', hx1'⟩
    · rfl
    · have h1 := hself q hq; subst h1
      have h2 := r.size c' q' (hmu c' q' hc' hq')
      omega
    · have h1 := hself q' hq'; subst h1
      have h2 := r.size c q (hmu c q hc hq)
      omega
    · exact r.inj c c' x x' q q' hx1 hx1' how (hmu c q hc hq) (hmu c' q' hc' hq') e
  · intro c x q hx how hq
    rcases hget c x hx with ⟨rfl, _⟩ | ⟨hc, hx'⟩
    · rw [hself q hq, hp']; exact r.up _ (Nat.le_refl _)
    · exact r.own c x q hx' how (hmu c q hc hq)
  · intro c q hq
    by_cases hc : c = b
    · subst hc; rw [hself q hq, hp']; simp
    · have := r.size c q (hmu c q hc hq); simp; omega
  · intro c hc; exact r.up c (by simp at hc; omega)
  · intro c m mods seen q pm es mo hc hm hq hpm
    rcases hget m _ hm with ⟨rfl, hh⟩ | ⟨hmn, hm'⟩
    · rcases hget c _ hc with ⟨rfl, hh2⟩ | ⟨hcn, hc'⟩
      · rw [← hh] at hh2; cases hh2
      · obtain ⟨q2, ob2, hq2, _, hr2⟩ := r.obj c _ hc'
        cases hr2 with
        | iter _ e => rw [hn] at e; cases e
    · have hpm' := hmu m pm hmn hpm
      rcases hget c _ hc with ⟨rfl, hh⟩ | ⟨hcn, hc'⟩
      · rw [hself q hq]
        exact hi m mods seen hh.symm pm es mo hm' hpm'
      · have hi' := r.iter c m mods seen q pm es mo hc' hm' (hmu c q hcn hq) hpm'
        refine ⟨hi'.1, fun e es' clock since sb stepped h1 h2 => ?_⟩
        rw [hold m pm hpm'] at h1
        rw [hold c q (hmu c q hcn hq)] at h2
        obtain ⟨a, b', l, l1, l2, l3⟩ := hi'.2 e es' clock since sb stepped h1 h2
        exact ⟨a, b', l, l1, l2, l3.1.mono hle, l3.2⟩
  · intro c x q hx hq
    rcases hget c _ hx with ⟨rfl, hh⟩ | ⟨hc, hx'⟩
    · subst hh; cases how
    · exact r.ro c x q hx' (hmu c q hc hq)

end

/-- what becomes of the model's world beside the blocks that may be touched -/
structure Step (O : Own) (w w' : World) : Prop where
  keep : ∀ c, ¬ O c → w'.heap[c]? = w.heap[c]?
  size : w.heap.size ≤ w'.heap.size
  tape : w'.tape = w.tape
  os : w'.os = w.os
  output : w'.output = w.output

theorem Step.refl (O : Own) (w : World) : Step O w w := ⟨fun _ _ => rfl, Nat.le_refl _, rfl, rfl, rfl⟩
theorem Step.trans {O : Own} {w w1 w2 : World} (a : Step O w w1) (b : Step O w1 w2) : Step O w w2 :=
  ⟨fun c hc => (b.keep c hc).trans (a.keep c hc), Nat.le_trans a.size b.size, b.tape.trans a.tape, b.os.trans a.os, b.output.trans a.output⟩

end Go.Ab
end
