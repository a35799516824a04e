/- Open slices of cells. More rules by which drawing regions are run. The search, plainly: its steps. forget. lay. Conditions: none. -/
import Derived.Test.YtbclmkfibgmgdaaGreatDoorRdSF
import Derived.Test.YtbclmkfibgmgdaaGreatDoorRdSE
import Derived.Test.YtbclmkfibgmgdaaGreatDoorRdVU
section
namespace Go.Ab
set_option linter.unusedVariables false
noncomputable section

/-- a slice that was appended to, maybe cut: its elements, of one cell each -/
inductive VSl (H : Hp) (e : TypeId) : AV → List AV → Prop
  | nil : VSl H e .nilSlice []
  | mk {b cap : Nat} {c vs : List AV} {o : Bool} : H.get b = some (.cells c e o) → c.length = cap → 0 < cap → c.take vs.length = vs → vs.length ≤ cap → AV.beqL c c = true → VSl H e (.slice b 0 vs.length cap 2) vs

theorem beqL_iff : ∀ c : List AV, AV.beqL c c = true ↔ ∀ x, x ∈ c → AV.beq x x = true
  | [] => by simp [AV.beqL]
  | x :: c => by rw [AV.beqL, Bool.and_eq_true, beqL_iff c]; simp
theorem VSl.move {H H' : Hp} {e : TypeId} {x : AV} {l : List AV} (h : VSl H e x l) (hb : Blk (fun b => H'.get b = H.get b) x) : VSl H' e x l := by
  cases h with
  | nil => exact .nil
  | mk h1 h2 h3 h4 h5 h6 => exact .mk (Eq.trans hb h1) h2 h3 h4 h5 h6
theorem VSl.len {E : Env} {H : Hp} {x : AV} {l : List AV} {t e e' : Nat} (h : VSl H e x l) (hu : E.under t = some (.slice e')) : lenS E t x = some (nI l.length) := by
  rw [lenS_slice x hu]; cases h <;> rfl

theorem splice_set (v : AV) : ∀ (n : Nat) (c : List AV), n < c.length → splice [v] n c = some (c.set n v)
  | n, [], h => by simp at h
  | 0, x :: c, _ => rfl
  | n + 1, x :: c, h => by
    rw [splice_succ, splice_set v n c (by simpa using h)]; rfl
theorem cut_take {α : Type} : ∀ (l : List α) (n : Nat), n ≤ l.length → cut l 0 n = some (l.take n)
  | l, 0, _ => by rw [cut_zero, takeE_zero]; simp
  | [], n + 1, h => by simp at h
  | x :: l, n + 1, h => by
    rw [cut_zero, takeE_succ, ← cut_zero, cut_take l n (by simpa using h)]; rfl

theorem append_v {E : Env} {H : Hp} {f v : AV} {vs : List AV} {nb id t e op1 by_ : Nat} {o : Bool} {ti : TypeInfo} (he : E.elem t = some e) (hti : E.tt.get none e = some ti) (hsz : ti.size = 1) (hby : ti.bytes = by_) (hby2 : by_ ≤ 64) (hz : zeroOk E e 1 = true)
    (hn : E.isNum (some t) = some false) (hf : VSl H e f vs) (hnb : H.get nb = some (.cells [v] e o)) (hv : scalars [v] = true) (hvb : AV.beq v v = true) (hfr : vs.length < 1000000) (hid : Blk (fun b => b ≠ id) f) :
    ∃ f' H', appendS E t (some t) f (.slice nb 0 1 1 op1) id H = some (f', H') ∧ H'.next = H.next ∧ VSl H' e f' (vs ++ [v]) ∧ (Blk (fun b => b = id) f' ∨ ∃ b o n c p o' n' c' p', f = .slice b o n c p ∧ f' = .slice b o' n' c' p') ∧ (∀ c, c ≠ id → Blk (fun b => c ≠ b) f → H'.get c = H.get c) := by
  have hnew : newCellsS E e 1 false (.slice nb 0 1 1 op1) H = some (1, [v]) := by
    unfold newCellsS
    show (some 1).bind (fun n => (firstS 1 n H (.slice nb 0 1 1 op1)).map fun l => (n, l)) = _
    show (((H.get nb).bind cellsOf).bind fun c => cut c.1 0 (Nat.mul 1 1)).map _ = _
    rw [hnb]; rfl
  have hb : ∀ m, m < 1000001 → bears m by_ = true := by
    intro m hm
    unfold bears
    have : m * by_ ≤ 1000001 * 64 := Nat.mul_le_mul (by omega) hby2
    rw [show Nat.ble (Nat.mul m by_) 140737488355328 = true from Nat.ble_eq_true_of_le (show m * by_ ≤ 140737488355328 by omega), Nat.ble_eq_true_of_le (show m ≤ 1099511627776 by omega)]; rfl
  have happ : ∀ n1, lenSl f = n1 → n1 < 1000000 → appendS E t (some t) f (.slice nb 0 1 1 op1) id H = appendToS f 1 e id H 1 [v] := by
    intro n1 h1 h2
    unfold appendS
    rw [he]; simp only [hti, hn, hsz, hby, hnew, h1]
    rw [hb (Nat.add n1 1) (show n1 + 1 < 1000001 by omega), hz]; rfl
  cases hf with
  | nil =>
    refine ⟨_, _, happ 0 rfl (by omega), rfl, ?_, .inl rfl, fun c hc _ => Hp.put_get_ne _ _ _ _ hc⟩
    exact VSl.mk (vs := [v]) (Hp.put_get_eq _ _ _) rfl (by omega) rfl (by simp) ((beqL_iff _).2 (by simpa using hvb))
  | @mk b cap c _ o2 h1 h2 h3 h4 h5 h6 =>
    by_cases hc : vs.length + 1 ≤ cap
    · have hlt : vs.length < c.length := by omega
      refine ⟨.slice b 0 (vs.length + 1) cap 2, H.put b (.cells (c.set vs.length v) e o2), ?_, rfl, ?_, .inr ⟨_, _, _, _, _, _, _, _, _, rfl, rfl⟩, fun c' _ hcb => Hp.put_get_ne _ _ _ _ hcb⟩
      · rw [happ vs.length rfl hfr]
        unfold appendToS
        simp only []
        rw [show Nat.ble (Nat.add vs.length 1) cap = true from Nat.ble_eq_true_of_le hc]
        show appendInS b 0 vs.length 1 cap 2 1 [v] H = _
        unfold appendInS Hp.cells
        rw [h1]
        simp only [Option.bind_some, cellsOf_cells]
        have : splice [v] (Nat.add 0 (Nat.mul vs.length 1)) c = some (c.set vs.length v) := by
          rw [show Nat.add 0 (Nat.mul vs.length 1) = vs.length by show 0 + vs.length * 1 = _; omega]
          exact splice_set v _ c hlt
        rw [this]
        simp only [hv, cond_true]
      · have := VSl.mk (H := H.put b (.cells (c.set vs.length v) e o2)) (e := e) (b := b) (cap := cap) (c := c.set vs.length v) (vs := vs ++ [v]) (o := o2) (Hp.put_get_eq _ _ _) (by simpa using h2) h3 ?_ (by simpa using hc) ((beqL_iff _).2 fun y hy => by rcases List.mem_or_eq_of_mem_set hy with hy | hy; exact (beqL_iff _).1 h6 y hy; rw [hy]; exact hvb)
        · simpa using this
        · simp only [List.length_append, List.length_cons, List.length_nil, Nat.zero_add]
          rw [List.take_add_one, List.take_set_of_le (Nat.le_refl _), h4]
          simp [hlt]
    · refine ⟨.slice id 0 (vs.length + 1) (vs.length + 1) 2, (H.put id (.cells (vs ++ [v]) e true)).drop b, ?_, rfl, ?_, .inl rfl, fun c' hc' hcb => (Hp.drop_get_ne _ _ _ hcb).trans (Hp.put_get_ne _ _ _ _ hc')⟩
      · rw [happ vs.length rfl hfr]
        unfold appendToS
        simp only []
        have : Nat.ble (Nat.add vs.length 1) cap = false := by
          cases h : Nat.ble (Nat.add vs.length 1) cap with
          | false => rfl
          | true => exact absurd (Nat.le_of_ble_eq_true h) hc
        rw [this]
        unfold Hp.cells
        rw [h1]
        simp only [cond_false, Option.bind_some, cellsOf_cells]
        unfold appendNewS
        have hcut : cut c 0 (Nat.mul vs.length 1) = some vs := by
          rw [show Nat.mul vs.length 1 = vs.length from Nat.mul_one _, cut_take c _ (by omega), h4]
        rw [hcut]
        simp only [hv, natBeq_refl, Bool.and_true, Bool.or_true, cond_true]
        rfl
      · have hib : b ≠ id := hid
        have := VSl.mk (H := (H.put id (.cells (vs ++ [v]) e true)).drop b) (e := e) (b := id) (cap := vs.length + 1) (c := vs ++ [v]) (vs := vs ++ [v]) (o := true) ((Hp.drop_get_ne _ _ _ (Ne.symm hib)).trans (Hp.put_get_eq _ _ _)) (by simp) (by omega) (List.take_length ..) (by simp) ((beqL_iff _).2 fun y hy => by rcases List.mem_append.1 hy with hy | hy; exact (beqL_iff _).1 h6 y (by rw [← h4] at hy; exact List.mem_of_mem_take hy); rw [List.mem_singleton.1 hy]; exact hvb)
        simpa using this

/-- an element -/
theorem VSl.nth {H : Hp} {e b o n c p : Nat} {vs : List AV} (h : VSl H e (.slice b o n c p) vs) {i : Nat} (hi : i < vs.length) : o = 0 ∧ n = vs.length ∧ ∃ cs q, H.get b = some (.cells cs e q) ∧ Go.Ab.nth cs i = some vs[i] ∧ AV.beqL cs cs = true := by
  cases h with
  | @mk _ _ cs _ _ h1 h2 h3 h4 h5 h6 =>
    refine ⟨rfl, rfl, _, _, h1, ?_, h6⟩
    rw [nth_eq]
    have : (List.take vs.length cs)[i]? = vs[i]? := by rw [h4]
    rw [List.getElem?_take_of_lt hi] at this
    rw [this]; simp [hi]
/-- the first ones -/
theorem VSl.cut {E : Env} {H : Hp} {e t : Nat} {x : AV} {vs : List AV} (h : VSl H e x vs) (hu : E.under t = some (.slice e)) (hs : E.size e = some 1) {n : Nat} (hn : n < vs.length) :
    ∃ x', sliceA E t x none (some (nI n)) none = some x' ∧ VSl H e x' (vs.take n) ∧ (∃ b o m c p o' m' c' p', x = .slice b o m c p ∧ x' = .slice b o' m' c' p') := by
  cases h with
  | nil => simp at hn
  | @mk b cap c _ o h1 h2 h3 h4 h5 h6 =>
    refine ⟨.slice b 0 n cap 2, ?_, ?_, ⟨_, _, _, _, _, _, _, _, _, rfl, rfl⟩⟩
    · unfold sliceA
      rw [hu]
      show sliceSl e b 0 vs.length cap 2 none (some (nI n)) none E = _
      unfold sliceSl
      rw [hs]
      show (Bool.rec none (sliceOp b 0 0 n cap 1 2 none (some (nI n)) none) (within 0 n cap cap && boundsOk (some (nI n)) none) : Option AV) = _
      have hw : (within 0 n cap cap && boundsOk (some (nI n)) none) = true := by
        unfold within
        rw [Nat.ble_eq_true_of_le (Nat.zero_le n), Nat.ble_eq_true_of_le (show n ≤ cap by omega), Nat.ble_eq_true_of_le (Nat.le_refl cap)]; rfl
      rw [hw]
      show sliceOp b 0 0 n cap 1 2 none (some (nI n)) none = _
      unfold sliceOp
      have : Nat.beq cap 0 = false := by
        cases hc : Nat.beq cap 0 with
        | false => rfl
        | true => have := Nat.eq_of_beq_eq_true hc; omega
      simp only [this]
      rfl
    · have := VSl.mk (H := H) (e := e) (b := b) (cap := cap) (c := c) (vs := vs.take n) (o := o) h1 h2 h3 ?_ (by rw [List.length_take]; omega) h6
      · rwa [List.length_take, Nat.min_eq_left (by omega)] at this
      · rw [List.length_take, Nat.min_eq_left (by omega)]
        rw [← h4, List.take_take, Nat.min_eq_left (by omega)]

/-- blocks of other things are other blocks -/
theorem VSl.ne_cells {H : Hp} {e : TypeId} {x : AV} {vs : List AV} (h : VSl H e x vs) {c : Nat} {cs : List AV} {e' : TypeId} {o : Bool} (hc : H.get c = some (.cells cs e' o)) (hne : e' ≠ e) : Blk (fun b => c ≠ b) x := by
  cases h with
  | nil => trivial
  | mk h1 _ _ _ _ _ => intro hb; subst hb; rw [hc] at h1; exact hne (AObj.cells.inj (Option.some.inj h1)).2.1
theorem VSl.ne_map {H : Hp} {e : TypeId} {x : AV} {vs : List AV} (h : VSl H e x vs) {M : Nat} {p : PM (List Nat)} (hm : MapAt H M p) : Blk (fun b => M ≠ b) x := by
  obtain ⟨mods, hm⟩ := hm
  cases h with
  | nil => trivial
  | mk h1 _ _ _ _ _ => intro hb; subst hb; rw [hm] at h1; cases h1
/-- one slice's block is another one's no block -/
theorem VSl.ne_v {H : Hp} {e e' : TypeId} {x y : AV} {vs ws : List AV} (h : VSl H e x vs) (g : VSl H e' y ws) (hne : e' ≠ e) : Blk (fun c => Blk (fun b => c ≠ b) x) y := by
  cases g with
  | nil => trivial
  | mk h1 _ _ _ _ _ => exact h.ne_cells h1 hne
theorem VSl.ne_str {H : Hp} {e : TypeId} {x y : AV} {vs : List AV} {l : List (List Nat)} (h : VSl H e x vs) (g : StrSl H y l) (hne : 9 ≠ e) : Blk (fun c => Blk (fun b => c ≠ b) x) y := by
  cases g with
  | nil => trivial
  | mk h1 => exact h.ne_cells h1 hne
/-- the texts of each of some slices -/
def FrSl (H : Hp) (lo : Nat) : List AV → List (List (List Nat)) → Prop
  | [], [] => True
  | a :: xs, l :: ls => StrSl H a l ∧ Blk (fun b => lo ≤ b ∧ b < H.next) a ∧ FrSl H lo xs ls
  | _, _ => False
theorem FrSl.move {H H' : Hp} {lo : Nat} (hle : H.next ≤ H'.next) : ∀ {xs : List AV} {ls : List (List (List Nat))}, FrSl H lo xs ls → (∀ a l, StrSl H a l → Blk (fun b => lo ≤ b ∧ b < H.next) a → Blk (fun b => H'.get b = H.get b) a) → FrSl H' lo xs ls
  | [], [], _, _ => trivial
  | a :: xs, l :: ls, h, g => ⟨h.1.move (g a l h.1 h.2.1), h.2.1.mono fun b hb => ⟨hb.1, Nat.lt_of_lt_of_le hb.2 hle⟩, FrSl.move hle h.2.2 g⟩
theorem FrSl.append {H : Hp} {lo : Nat} : ∀ {xs : List AV} {ls : List (List (List Nat))} {a : AV} {l : List (List Nat)}, FrSl H lo xs ls → StrSl H a l → Blk (fun b => lo ≤ b ∧ b < H.next) a → FrSl H lo (xs ++ [a]) (ls ++ [l])
  | [], [], _, _, _, h1, h2 => ⟨h1, h2, trivial⟩
  | _ :: _, _ :: _, _, _, h, h1, h2 => ⟨h.1, h.2.1, FrSl.append h.2.2 h1 h2⟩
theorem FrSl.length {H : Hp} {lo : Nat} : ∀ {xs : List AV} {ls : List (List (List Nat))}, FrSl H lo xs ls → xs.length = ls.length
  | [], [], _ => rfl
  | _ :: _, _ :: _, h => congrArg Nat.succ (FrSl.length h.2.2)
theorem FrSl.get {H : Hp} {lo : Nat} : ∀ {xs : List AV} {ls : List (List (List Nat))} (h : FrSl H lo xs ls) (i : Nat) {a : AV} {l : List (List Nat)}, xs[i]? = some a → ls[i]? = some l → StrSl H a l ∧ Blk (fun b => lo ≤ b ∧ b < H.next) a
  | a :: xs, l :: ls, h, 0, _, _, e1, e2 => by cases e1; cases e2; exact ⟨h.1, h.2.1⟩
  | a :: xs, l :: ls, h, i + 1, _, _, e1, e2 => FrSl.get h.2.2 i (by simpa using e1) (by simpa using e2)
  | [], [], _, i, _, _, e1, _ => by simp at e1
theorem FrSl.take {H : Hp} {lo : Nat} : ∀ {xs : List AV} {ls : List (List (List Nat))} (n : Nat), FrSl H lo xs ls → FrSl H lo (xs.take n) (ls.take n)
  | _, _, 0, _ => by simp [FrSl]
  | [], [], n + 1, _ => trivial
  | _ :: _, _ :: _, n + 1, h => ⟨h.1, h.2.1, FrSl.take n h.2.2⟩
end
end Go.Ab
end
section
namespace Go.Ab
set_option linter.unusedVariables false
noncomputable section
section
variable {E : Env} {d nt base : Nat} {all : List SOp} {L : Store → Hp → Prop} {K : AV → DSt → Prop} {s : Store} {H : Hp} {e a : List Nat} {sn : List Hp} {rd : List (Nat × Nat × AObj)} {i m : Nat} {dst : Option Nat} {op : Op} {r : List TOp}
@[simp] theorem evD_store (t : TypeId) (x y : Operand) : evD E d base i m (.store t x y) ⟨s, H, e, a, sn, rd⟩ K = ((e.all (bitAt m) && a.all (bitAt m)) = true ∧
    wpH (((ptrOf (opS s x)).bind (storeS E t H (opS s y))).map fun H' => (undefA, H')) fun v H' => fuB m rd H' (K v (sd ⟨s, H', i :: e, a, H' :: sn, rd⟩))) := rfl
@[simp] theorem evD_append (x y : Operand) (t u : TypeId) : evD E d base i m (.call ⟨.builtin .append, #[x, y], #[t, u]⟩) ⟨s, H, e, a, sn, rd⟩ K = ((e.all (bitAt m) && a.all (bitAt m)) = true ∧
    wpH (appendS E t (some u) (opS s x) (opS s y) (Nat.add base i) H) fun v H' => fuB m rd H' (K v (sd ⟨s, H', i :: e, a, H' :: sn, rd⟩))) := rfl
/-- a call of a function value -/
def evCallD (E : Env) (d : Nat) (f : AV) (args : List AV) (H : Hp) (K : AV → Hp → Prop) : Prop :=
  match f with
  | .func g first captured => Go.Ab.Fn E d g (first ++ args ++ captured) H K
  | _ => False
@[simp] theorem evCallD_func (g : FuncId) (l1 l2 args : List AV) (F : AV → Hp → Prop) : evCallD E d (.func g l1 l2) args H F = Go.Ab.Fn E d g (l1 ++ args ++ l2) H F := rfl
@[simp] theorem evD_tmp (k : Nat) (args : Array Operand) (ts : Array TypeId) : evD E d base i m (.call ⟨.value (.tmp k), args, ts⟩) ⟨s, H, e, a, sn, rd⟩ K = ((e.all (bitAt m) && a.all (bitAt m)) = true ∧
    evCallD E d (s k) (args.toList.map (opS s)) H fun v H' => fuB m rd H' (K v (sd ⟨s, H', i :: e, a, H' :: sn, rd⟩))) := rfl
/-- a block is made -/
def alB (base i m : Nat) (s : Store) (H : Hp) (e a : List Nat) (sn : List Hp) (rd : List (Nat × Nat × AObj)) (K : AV → DSt → Prop) (x : Option (AObj × (Nat → AV))) : Prop :=
  match x with
  | some (o, g) => (e.all (bitAt m) || isCells o) = true ∧ K (vv (g (Nat.add base i))) (sd ⟨s, H.put (Nat.add base i) o, e, i :: a, sn, rd⟩)
  | none => False
@[simp] theorem alB_cells (c : List AV) (t : TypeId) (o : Bool) (g : Nat → AV) : alB base i m s H e a sn rd K (some (.cells c t o, g)) = K (vv (g (Nat.add base i))) (sd ⟨s, H.put (Nat.add base i) (.cells c t o), e, i :: a, sn, rd⟩) := by
  show ((e.all (bitAt m) || true) = true ∧ _) = _
  simp
@[simp] theorem evD_alloc (t : TypeId) : evD E d base i m (.alloc t) ⟨s, H, e, a, sn, rd⟩ K = alB base i m s H e a sn rd K ((E.zero t).map fun z => (.cells z.cells t false, ptrTo)) := rfl
@[simp] theorem evD_buildSlice (t : TypeId) (n : Nat) (ps : Array (Nat × Operand)) : evD E d base i m (.buildSlice t n ps) ⟨s, H, e, a, sn, rd⟩ K = alB base i m s H e a sn rd K (buildSliceS E s t n ps.toList) := rfl
/-- each state holds the block as it was read -/
theorem readOk_all {n b : Nat} {o : AObj} {l : List (Nat → Option AObj)} (h : ∀ f, f ∈ l → f b = some o) (ho : sameO o o = true) : readOkS n l b o = true := by
  unfold readOkS
  rw [List.all_eq_true]
  intro f hf
  rw [h f (List.mem_of_mem_take hf)]
  exact ho
/-- each block that was read is as it was, or was to be read ahead -/
theorem reads_keep {m : Nat} {l : List (Nat × Nat × AObj)} {H : Hp} (h : ∀ r, r ∈ l → bitAt m r.1 = true ∨ (H.get r.2.1 = some r.2.2 ∧ sameO r.2.2 r.2.2 = true)) : readsS m l H = true := by
  unfold readsS
  rw [List.all_eq_true]
  intro r hr
  rcases h r hr with h | ⟨h1, h2⟩
  · rw [h]; rfl
  · rw [h1]; unfold sameAt; simp only [h2, Bool.or_true]
theorem bin_adds (t : TypeId) (c : Bool) (a b : List Nat) (h : a.length + b.length ≤ 1099511627776) : binA E t c .add (.str a) (.str b) = some (.str (a ++ b)) := by
  show (bif Nat.ble (Nat.add (len a) (len b)) 1099511627776 then some (AV.str (a ++ b)) else none) = _
  rw [len_eq, len_eq, show Nat.ble (Nat.add a.length b.length) 1099511627776 = true from Nat.ble_eq_true_of_le h]; rfl
end
end
end Go.Ab
end
section
namespace Go.Ab
section
variable {α : Type} [DecidableEq α]
inductive LRes where
  | yes
  | no
  | many
deriving DecidableEq
/-- the search: what is laid (the last one first), from where on, how many looks, what became of what -/
def laidGo (R S : List (List α)) : Nat → List (Nat × List α) → Nat → Nat → PM α → Option LRes
  | 0, _, _, _, _ => none
  | n + 1, st, k, looks, p =>
    if k < R.length then
      if looks + 1 > 65536 then some .many else
      match S[st.length]?, R[k]? with
      | some a, some b =>
        match layF p [] a b with
        | (p', l, true) => if st.length + 1 < S.length then laidGo R S n ((k, l) :: st) 0 (looks + 1) p' else some .yes
        | (p', _, false) => laidGo R S n st (k + 1) (looks + 1) p'
      | _, _ => none
    else match st with
      | [] => some .no
      | (j, l) :: st' => laidGo R S n st' (j + 1) looks (prmAll p l)
def laidF (R S : List (List α)) (n : Nat) : Option LRes := if 0 < S.length then laidGo R S n [] 0 0 [] else some .yes
end

/-! the same over numbers, for the kernel -/
def nlk (k : Nat) : List (Nat × Nat) → Option Nat
  | [] => none
  | (a, v) :: r => bif Nat.beq k a then some v else nlk k r
def nrm (k : Nat) : List (Nat × Nat) → List (Nat × Nat)
  | [] => []
  | (a, v) :: r => bif Nat.beq k a then r else (a, v) :: nrm k r
def nrmAll : List (Nat × Nat) → List Nat → List (Nat × Nat)
  | m, [] => m
  | m, k :: l => nrmAll (nrm k m) l
/-- lay an arc (x, y) onto an arc (u, v) -/
def nlay (p : List (Nat × Nat)) (x y u v : Nat) : Option (List (Nat × Nat) × List Nat) :=
  match nlk x p with
  | none => (match nlk y ((x, u) :: p) with
    | none => some ((y, v) :: (x, u) :: p, [x, y])
    | some w => bif Nat.beq w v then some ((x, u) :: p, [x]) else none)
  | some w => bif Nat.beq w u then (match nlk y p with
    | none => some ((y, v) :: p, [y])
    | some w => bif Nat.beq w v then some (p, []) else none) else none
/-- the atoms left of S; those of R from a place on; what was laid: (what is left of R behind it, of S from it on, what it brought) -/
def ngo (R : List (Nat × Nat)) : Nat → List (Nat × Nat) → List (Nat × Nat) → List (List (Nat × Nat) × List (Nat × Nat) × List Nat) → Nat → List (Nat × Nat) → Option Bool
  | 0, _, _, _, _, _ => none
  | n + 1, S, Rk, st, looks, p =>
    match Rk with
    | [] => (match st with
      | [] => some false
      | (Rk', S', l) :: st' => ngo R n S' Rk' st' looks (nrmAll p l))
    | b :: Rk' => bif Nat.blt 65535 looks then none else match S with
      | [] => none
      | a :: S' => match nlay p a.1 a.2 b.1 b.2 with
        | some (p', l) => (match S' with
          | [] => some true
          | c :: S'' => ngo R n (c :: S'') R ((Rk', a :: S', l) :: st) (Nat.succ looks) p')
        | none => ngo R n S Rk' st (Nat.succ looks) p
def ring (i n : Nat) : Nat → List (Nat × Nat)
  | 0 => []
  | k + 1 => (8 * i + (n - (k + 1)), 8 * i + (n - k) % n) :: ring i n k
def rings : Nat → List Nat → List (Nat × Nat)
  | _, [] => []
  | i, n :: l => ring i n n ++ rings (i + 1) l
def nwinds : List Nat → List Nat → Bool
  | [], _ => true
  | n :: l, ar => ar.any (fun m => Nat.beq (n % m) 0) && nwinds l ar
def lists : List (List Nat) :=
  let one := [1, 2, 3, 4, 5]
  one.map (fun a => [a]) ++ (one.flatMap fun a => one.map fun b => [a, b]) ++ ((one.flatMap fun a => one.flatMap fun b => one.map fun c => [a, b, c]).filter fun l => Nat.ble l.sum 10)
def okPair (a b : List Nat) : Bool := match ngo (rings 0 a) 50000 (rings 0 b) (rings 0 a) [] 0 [] with | some r => r == nwinds b a | none => false
def okRow (a : List Nat) : Bool := lists.all fun b => okPair a b
end Go.Ab
end
section
namespace Go.Proofs
set_option linter.unusedSimpArgs false
open Go Go.Ab
set_option linter.unusedVariables false
noncomputable section

def rmAll : MP → List (List Nat) → MP
  | m, [] => m
  | m, k :: l => rmAll (rm k m) l

/-- all but one block as it was -/
structure Same1 (M : Nat) (H H' : Hp) : Prop where
  le : H.next ≤ H'.next
  get : ∀ b, b ≠ M → b < H.next → H'.get b = H.get b

theorem forget_loop {d M : Nat} {x : AV} {l : List (List Nat)} (hl : l.length < 4611686018427387904) : ∀ (k i : Nat) (s : Store) (H : Hp) (m : MP) (mods : Nat), i + k = l.length → H.get M = some (.map (toEs m) mods) → StrSl H x l → M < H.next → (∀ b o n c p, x = .slice b o n c p → b < H.next ∧ b ≠ M) →
    s 0 = .map M → s 6 = x → s 7 = nI l.length → s 8 = nI i →
    G Tryz.env d ⟨26, 15, none⟩ [.code L26_0, .inLoop L26_0, .inBlock 0] s H
      (fun v H' => Same1 M H H' ∧ ∃ mods', H'.get M = some (.map (toEs (rmAll m (l.drop i))) mods')) := by
  intro k
  induction k with
  | zero =>
    intro i s H m mods hik hm hx hM hb h0 h6 h7 h8
    refine G.seq (G.run v26_1 ?_)
    simp [h7, h8]
    refine G.seq (G.cond (t := false) ?_ ?_)
    · simp; omega
    · refine G.exit (td' := []) rfl ?_
      refine G.done fn26 (l := []) (by rw [res26]; rfl) ⟨⟨Nat.le_refl _, fun _ _ _ => rfl⟩, mods, ?_⟩
      rw [List.drop_of_length_le (by omega)]; exact hm
  | succ k ih =>
    intro i s H m mods hik hm hx hM hb h0 h6 h7 h8
    have hi : i < l.length := by omega
    refine G.seq (G.run v26_1 ?_)
    simp [h7, h8]
    refine G.seq (G.cond (t := true) ?_ ?_)
    · simp; omega
    · refine G.skip (G.seq (G.block (G.seq (G.run v26_2 ?_))))
      cases hx with
      | nil => simp at hi
      | @mk b op o _ hc =>
        have hci : nth (l.map AV.str) i = some (.str l[i]) := by rw [nth_eq]; simp [hi]
        have hld : loadS Tryz.env 9 H (b, i) = some (.str l[i]) := load_one tg9 ts9 hc hci
        simp [h6, h8, index_slice tu41 ts9 hi, hld]
        refine G.run v26_3 ?_
        obtain ⟨H2, e1, e2, e3, mods2, e4⟩ := delete_some (H := H.skip) tm72 (k := l[i]) (show keyOk Tryz.env 9 _ = true from rfl) (hm : H.skip.get M = _)
        simp [h0, e1]
        refine G.inBlock (G.run v26_4 ?_)
        simp [h8, n_add (E := Tryz.env) 3 true i 1 (by omega)]
        refine G.inLoop ?_
        have hM2 : M < H2.next := by rw [e2]; exact Nat.lt_succ_of_lt hM
        have hxb := hb b 0 l.length l.length op rfl
        have hx2 : StrSl H2 (.slice b 0 l.length l.length op) l := .mk ((e3 b hxb.2).trans hc)
        refine (ih (i + 1) _ H2 (rm l[i] m) mods2 (by omega) e4 hx2 hM2 (fun b' o' n' c' p' e => ⟨by rw [e2]; exact Nat.lt_succ_of_lt (hb _ _ _ _ _ e).1, (hb _ _ _ _ _ e).2⟩) ?_ ?_ ?_ ?_).mono ?_
        · simp [h0]
        · simp [h6]
        · simp [h7]
        · simp
        · rintro v H' ⟨f1, f2⟩
          refine ⟨⟨by have := f1.le; rw [e2] at this; exact Nat.le_trans (Nat.le_succ _) this, fun b' hb' hlt => ?_⟩, ?_⟩
          · rw [f1.get b' hb' (by rw [e2]; exact Nat.lt_succ_of_lt hlt), e3 b' hb']; rfl
          · rw [List.drop_eq_getElem_cons hi]; exact f2

theorem forget_ok {d M mods : Nat} {x : AV} {l : List (List Nat)} {H : Hp} {m : MP} (hl : l.length < 4611686018427387904) (hm : H.get M = some (.map (toEs m) mods)) (hx : StrSl H x l) (hM : M < H.next) (hb : ∀ b o n c p, x = .slice b o n c p → b < H.next ∧ b ≠ M) :
    Go.Ab.Fn Tryz.env (d + 1) 26 [.map M, x] H (fun v H' => Same1 M H H' ∧ ∃ mods', H'.get M = some (.map (toEs (rmAll m l)) mods')) := by
  refine Fn.enter sm26 fk26 fn26 body26 (by rw [nt26]; exact Nat.le_of_ble_eq_true rfl) (by rw [nt26]; decide) ?_
  rw [nt26]
  refine G.seq (G.run v26_0 ?_)
  have hlen : lenS Tryz.env 41 x = some (nI l.length) := by
    rw [lenS_slice x tu41]
    cases hx with
    | nil => rfl
    | mk => rfl
  have h0 : argS [AV.map M, x] 0 = .map M := rfl
  have h1 : argS [AV.map M, x] 1 = x := rfl
  simp [h1, hlen]
  refine G.block (G.loop ?_)
  refine (forget_loop hl l.length 0 _ H m mods (by omega) hm hx hM hb ?_ ?_ ?_ ?_).mono fun v H' h => h
  · simp [h0]
  · simp [h1]
  · simp
  · simp
theorem rmAll_th : ∀ (l : List (List Nat)) (p : PM (List Nat)), rmAll (thM p) l = thM (prmAll p l)
  | [], p => rfl
  | k :: l, p => by simp only [rmAll, prmAll]; rw [rm_th, rmAll_th l]
/-- forget -/
theorem forget_spec {d M : Nat} {x : AV} {l : List (List Nat)} {H : Hp} {p : PM (List Nat)} (hl : l.length < 4611686018427387904) (hm : MapAt H M p) (hx : StrSl H x l) (hM : M < H.next) (hb : Blk (fun b => b < H.next) x) :
    Go.Ab.Fn Tryz.env (d + 1) 26 [.map M, x] H (fun v H' => Same1 M H H' ∧ MapAt H' M (prmAll p l)) := by
  obtain ⟨mods, hm⟩ := hm
  refine (forget_ok hl hm hx hM ?_).mono fun v H' h => ⟨h.1, by unfold MapAt; rw [← rmAll_th]; exact h.2⟩
  rintro b o n c q rfl
  refine ⟨hb, ?_⟩
  rintro rfl
  cases hx with
  | mk h1 => rw [hm] at h1; cases h1
end
end Go.Proofs
end
section
namespace Go.Proofs
open Go Go.Ab
set_option linter.unusedVariables false
set_option linter.unusedSimpArgs false
noncomputable section

theorem thing_eq (c : Bool) (y z : List Nat) : binA Tryz.env 113 c .eql (thingOf y) (thingOf z) = some (.bool (decide (y = z))) := by
  show sameA Tryz.env 113 c .eql (thingOf y) (thingOf z) = _
  unfold sameA
  rw [tu113]
  show sameB .eql (bif Tryz.env.eqT 113 [nI 1, .str y, nI 0, nI 0] then eqScalars [nI 1, .str y, nI 0, nI 0] [nI 1, .str z, nI 0, nI 0] else none) = _
  show sameB .eql (bif natsEq y z then some true else some false) = _
  rw [natsEq_decide]
  by_cases h : y = z <;> simp [h, sameB]

/-- what a call of lay does -/
structure LaySpec (B0 M : Nat) (H H' : Hp) (r : PM (List Nat) × List (List Nat) × Bool) (v : AV) : Prop where
  le : H.next ≤ H'.next
  get : ∀ b, b ≠ M → b < B0 → H'.get b = H.get b
  map : MapAt H' M r.1
  val : ∃ f, v = .tup [f, .bool r.2.2] ∧ StrSl H' f r.2.1 ∧ Blk (fun b => B0 ≤ b ∧ b < H'.next) f

theorem lay_loop {d M po B0 : Nat} {ax ay pred lit : AV} {xs ys : List (List Nat)} (hlen : xs.length = ys.length) (hsm : xs.length < 1000) :
    ∀ (k i : Nat) (s : Store) (H : Hp) (p : PM (List Nat)) (f : AV) (fr : List (List Nat)), i + k = xs.length → MapAt H M p → TmSl H ax xs → TmSl H ay ys → H.get po = some (.cells [pred, ay] 27 false) → StrSl H f fr → fr.length ≤ i →
    M < B0 → B0 ≤ H.next → B0 ≤ po → po < H.next → Blk (fun b => b < B0) ax → Blk (fun b => b < B0) ay → Blk (fun b => B0 ≤ b ∧ b < H.next) f →
    s 0 = .map M → s 3 = lit → s 6 = .ptr po 0 → s 10 = f → s 32 = ax → s 33 = nI xs.length → s 34 = nI i →
    G Tryz.env (d + 1) ⟨25, 95, none⟩ [.code L25_0, .inLoop L25_0, .inBlock 0, .code (.seq (.region 24 R25_24 false) .ret)] s H
      (fun v H' => LaySpec B0 M H H' (layF p fr (xs.drop i) (ys.drop i)) v) := by
  intro k
  induction k with
  | zero =>
    intro i s H p f fr hik hm hx hy hpo hf hfr hMB hB hBo hpn hbx hby hbf h0 h3 h6 h10 h32 h33 h34
    refine G.seq (G.run v25_5 ?_)
    simp [h33, h34]
    refine G.seq (G.cond (t := false) (by simp; omega) ?_)
    refine G.exit rfl (G.seq (G.run v25_24 ?_))
    simp [h10]
    refine G.ret fn25 (l := [f, .bool true]) (by rw [res25]; simp [resL, resS]) ?_
    rw [List.drop_of_length_le (by omega), List.drop_of_length_le (by omega)]
    exact ⟨Nat.le_refl _, fun _ _ _ => rfl, hm, f, rfl, hf, hbf⟩
  | succ k ih =>
    intro i s H p f fr hik hm hx hy hpo hf hfr hMB hB hBo hpn hbx hby hbf h0 h3 h6 h10 h32 h33 h34
    have hi : i < xs.length := by omega
    have hi2 : i < ys.length := by omega
    have hlx : ∃ bx ox nx cx qx, ax = .slice bx ox nx cx qx ∧ i < nx ∧ loadS Tryz.env 51 H (bx, ox + i * 2) = some (.agg [nI 1, .str xs[i]]) ∧ bx < B0 := by
      cases hx with
      | nil => simp at hi
      | mk h1 h2 => exact ⟨_, _, _, _, _, rfl, hi, load_agg tg51 ts51 h1 (by simpa using h2 i xs[i] (List.getElem?_eq_getElem hi)), hbx⟩
    have hly : ∃ bx ox nx cx qx, ay = .slice bx ox nx cx qx ∧ i < nx ∧ loadS Tryz.env 51 H (bx, ox + i * 2) = some (.agg [nI 1, .str ys[i]]) ∧ bx < B0 := by
      cases hy with
      | nil => simp at hi2
      | mk h1 h2 => exact ⟨_, _, _, _, _, rfl, hi2, load_agg tg51 ts51 h1 (by simpa using h2 i ys[i] (List.getElem?_eq_getElem hi2)), hby⟩
    obtain ⟨bx, ox, nx, cx, qx, hax, hinx, hldx, hbx0⟩ := hlx
    obtain ⟨by_, oy, ny, cy, qy, hay, hiny, hldy, hby0⟩ := hly
    refine G.seq (G.run v25_5 ?_)
    simp [h33, h34]
    refine G.seq (G.cond (t := true) (by simp; omega) ?_)
    refine G.skip (G.seq (G.block (G.seq (G.run v25_6 ?_))))
    simp [h34, h32, hax, index_slice tu25 ts51 hinx, hldx, tz51]
    rw [store_at (c := [nI 0, .str []]) (c' := [nI 1, .str xs[i]]) (e := 51) (o := false) ts51 (by simp [Hp.skip_get, Hp.new_get_eq]) (by simp) (by simp)]
    simp
    refine G.genH fun H1 hH1 => ?_
    have n1 : H1.next = H.next + 2 := by rw [hH1]; rfl
    have g1 : ∀ b, b ≠ H.next → H1.get b = H.get b := by intro b hb; rw [hH1]; simp [Hp.put_get_ne, Hp.skip_get, Hp.new_get_ne, hb]
    have t1 : H1.get H.next = some (.cells [nI 1, .str xs[i]] 51 false) := by rw [hH1, Hp.put_get_eq]
    clear hH1
    refine G.seq (G.run v25_7 ?_)
    have l1 : loadS Tryz.env 25 H1 (po, 1) = some ay := load_one tg25 ts25 ((g1 po (by omega)).trans hpo) rfl
    have l2 : loadS Tryz.env 51 H1 (by_, oy + i * 2) = some (.agg [nI 1, .str ys[i]]) := by
      rw [← hldy]; unfold loadS Hp.rcells; rw [g1 by_ (by omega)]
    rw [hay] at l1
    simp [h6, tf27_1, l1, index_slice tu25 ts51 hiny, l2, buildS, tz113, tu113, tk113, fillSS, tzF113_0n, tzF113_0t, ts51, tzF113_0o]
    rw [store_at (c := [nI 0, .str [], nI 0, nI 0]) (c' := [nI 1, .str ys[i], nI 0, nI 0]) (e := 113) (o := false) ts113 (by simp [Hp.skip_get, Hp.new_get_eq]) (by simp) (by simp)]
    simp
    refine G.genH fun H2 hH2 => ?_
    have n2 : H2.next = H.next + 4 := by rw [hH2]; simp [Hp.put_next, Hp.skip_next, Hp.new_next, n1]
    have g2 : ∀ b, b ≠ H1.next → H2.get b = H1.get b := by intro b hb; rw [hH2]; simp [Hp.put_get_ne, Hp.skip_get, Hp.new_get_ne, hb]
    have t2 : H2.get H1.next = some (.cells [nI 1, .str ys[i], nI 0, nI 0] 113 false) := by rw [hH2, Hp.put_get_eq]
    have t1' : H2.get H.next = some (.cells [nI 1, .str xs[i]] 51 false) := (g2 _ (by omega)).trans t1
    clear hH2
    repeat refine G.seq ?_
    refine G.run v25_8 ?_
    have l3 : loadS Tryz.env 3 H2 (H1.next, 0) = some (nI 1) := load_one tg3 ts3 t2 rfl
    simp [tf113_0, tf51_0, l3]
    refine G.cond (t := false) (by simp) (G.skip ?_)
    repeat refine G.seq ?_
    refine G.run v25_10 ?_
    simp
    repeat refine G.seq ?_
    refine G.run v25_11 ?_
    have l4 : loadS Tryz.env 3 H2 (H.next, 0) = some (nI 1) := load_one tg3 ts3 t1' rfl
    simp [tf51_0, l4]
    refine G.block ?_
    repeat refine G.seq ?_
    refine G.run v25_12 ?_
    simp
    refine G.cond (t := false) (by simp) ?_
    repeat refine G.seq ?_
    refine G.run v25_14 ?_
    simp
    refine G.cond (t := true) (by simp) ?_
    repeat refine G.seq ?_
    refine G.run v25_15 ?_
    have l5 : loadS Tryz.env 9 H2 (H.next, 1) = some (.str xs[i]) := load_one tg9 ts9 t1' rfl
    have hm2 : MapAt H2 M p := by
      obtain ⟨mods, e⟩ := hm
      exact ⟨mods, ((g2 M (by omega)).trans (g1 M (by omega))).trans e⟩
    obtain ⟨mods, hmm⟩ := hm2
    have lk1 : lookupS Tryz.env 72 (.map M) (.str xs[i]) true H2 = some (found true (.agg [nI 0, .str [], nI 0, nI 0]) ((plk xs[i] p).map thingOf)) := by
      unfold lookupS
      rw [tm72]
      show (match (H2.mapAt M).map (·.1), Tryz.env.zero 113 with | some es, some z => _ | _, _ => none) = _
      unfold Hp.mapAt
      rw [hmm, tz113]
      show lookupZ (toEs (thM p)) _ _ true = _
      unfold lookupZ
      rw [lookup_es, lk_th]; rfl
    simp [h0, tf51_1, l5, lk1]
    have hxd : xs.drop i = xs[i] :: xs.drop (i + 1) := List.drop_eq_getElem_cons hi
    have hyd : ys.drop i = ys[i] :: ys.drop (i + 1) := List.drop_eq_getElem_cons hi2
    have old2 : ∀ b, b < H.next → H2.get b = H.get b := fun b hb => (g2 b (by omega)).trans (g1 b (by omega))
    cases hpl : plk xs[i] p with
    | none =>
      simp [found, tz113, Hp.skip_get]
      rw [store_at (c := [nI 0, .str [], nI 0, nI 0]) (c' := [nI 0, .str [], nI 0, nI 0]) (e := 113) (o := false) ts113 (by simp [Hp.skip_get, Hp.new_get_eq]) (by simp) (by simp)]
      simp
      refine G.genH fun H3 hH3 => ?_
      have n3 : H3.next = H.next + 6 := by rw [hH3]; simp [Hp.put_next, Hp.skip_next, Hp.new_next, n2]
      have g3 : ∀ b, b ≠ H2.next → H3.get b = H2.get b := by intro b hb; rw [hH3]; simp [Hp.put_get_ne, Hp.skip_get, Hp.new_get_ne, hb]
      clear hH3
      repeat refine G.seq ?_
      refine G.run v25_16 ?_
      simp
      refine G.cond (t := true) (by simp) ?_
      repeat refine G.seq ?_
      refine G.run v25_17 ?_
      have t1c : H3.get H.next = some (.cells [nI 1, .str xs[i]] 51 false) := (g3 _ (by omega)).trans t1'
      have t2c : H3.get H1.next = some (.cells [nI 1, .str ys[i], nI 0, nI 0] 113 false) := (g3 _ (by omega)).trans t2
      have l6 : loadS Tryz.env 9 H3 (H.next, 1) = some (.str xs[i]) := load_one tg9 ts9 t1c rfl
      have l7 : loadS Tryz.env 113 H3 (H1.next, 0) = some (thingOf ys[i]) := load_agg tg113 ts113 t2c rfl
      have hm3 : H3.skip.get M = some (.map (toEs (thM p)) mods) := (g3 M (by omega)).trans hmm
      have up : updateS Tryz.env 72 (.map M) (.str xs[i]) (thingOf ys[i]) H3.skip = some (H3.skip.put M (.map (toEs (thM (p ++ [(xs[i], ys[i])]))) (Nat.succ mods))) := by
        unfold updateS
        rw [tm72]
        show updateMS M (.str xs[i]) (thingOf ys[i]) H3.skip = _
        unfold updateMS Hp.mapAt
        rw [hm3]
        simp only [Option.bind_some, mapOf_map, lookup_es, lk_th, hpl, Option.map_none]
        rw [thM_append, toEs_append]; rfl
      simp [h0, tf51_1, l6, l7, up]
      refine G.genH fun H4 hH4 => ?_
      have n4 : H4.next = H.next + 7 := by rw [hH4]; simp [Hp.put_next, Hp.skip_next, n3]
      have g4 : ∀ b, b ≠ M → H4.get b = H3.get b := by intro b hb; rw [hH4]; simp [Hp.put_get_ne, Hp.skip_get, hb]
      have m4 : H4.get M = some (.map (toEs (thM (p ++ [(xs[i], ys[i])]))) (Nat.succ mods)) := by rw [hH4, Hp.put_get_eq]
      clear hH4
      refine G.run v25_18 ?_
      have t1d : H4.get H.next = some (.cells [nI 1, .str xs[i]] 51 false) := (g4 _ (by omega)).trans t1c
      have l8 : loadS Tryz.env 9 H4 (H.next, 1) = some (.str xs[i]) := load_one tg9 ts9 t1d rfl
      have old4 : ∀ b, b ≠ M → b < H.next → H4.get b = H.get b := fun b hM hb => ((g4 b hM).trans (g3 b (by omega))).trans (old2 b hb)
      have hf4 : StrSl (H4.new (.cells [.str xs[i]] 9 false)).skip f fr := by
        refine hf.move (hbf.mono fun b hb => ?_)
        rw [Hp.skip_get, Hp.new_get_ne _ _ _ (by omega), old4 b (by omega) hb.2]
      obtain ⟨f', H5, e1, e2, e3, ⟨op', e4⟩, e5⟩ := append_str (E := Tryz.env) (t := 41) (op1 := 0) (nb := H4.next) (id := H4.next + 1) (o := false) te41 (show Tryz.env.tt.get none 9 = some Tryz.t9 from rfl) rfl rfl rfl rfl hf4
        (x := xs[i]) (by rw [Hp.skip_get]; exact Hp.new_get_eq _ _ _ rfl) (by omega) (hbf.mono fun b hb => by omega)
      have ble1 : Nat.ble 1 16777216 = true := rfl
      simp [h10, tf51_1, l8, buildSliceS, te41, ts9, tz9, fillES, rep, sliceTo, Hp.new_next, ble1, e1]
      repeat refine G.seq ?_
      refine G.run v25_19 ?_
      simp
      refine G.inBlock ?_
      repeat refine G.seq ?_
      refine G.run v25_20 ?_
      simp
      refine G.cond (t := false) (by simp) (G.skip (G.inBlock ?_))
      refine G.run v25_23 ?_
      simp [h34, n_add (E := Tryz.env) 3 true i 1 (by omega)]
      refine G.inLoop ?_
      have e2' : H5.next = H.next + 9 := by rw [e2]; simp [Hp.skip_next, Hp.new_next, n4]
      have old5 : ∀ b, b ≠ M → b < H.next → Blk (fun c => b ≠ c) f → H5.get b = H.get b := by
        intro b hM hb hc
        rw [e5 b (by omega) hc, Hp.skip_get, Hp.new_get_ne _ _ _ (by omega), old4 b hM hb]
      have hfb : ∀ b, b < B0 → Blk (fun c => b ≠ c) f := fun b hb => hbf.mono fun c hc => by omega
      have hfpo : Blk (fun c => po ≠ c) f := by
        cases hf with
        | nil => trivial
        | mk hq => intro e; rw [← e] at hq; rw [hpo] at hq; exact absurd (AObj.cells.inj (Option.some.inj hq)).2.1 (by decide)
      have m5 : H5.get M = some (.map (toEs (thM (p ++ [(xs[i], ys[i])]))) (Nat.succ mods)) := by
        rw [e5 M (by omega) (hfb M hMB), Hp.skip_get, Hp.new_get_ne _ _ _ (by omega), m4]
      refine (ih (i + 1) _ H5 (p ++ [(xs[i], ys[i])]) f' (fr ++ [xs[i]]) (by omega) ⟨_, m5⟩ (hx.move ((hbx.and (hx.ne hm)).mono fun b hb => ?_)) (hy.move ((hby.and (hy.ne hm)).mono fun b hb => ?_)) ?_ e3 ?_ hMB (by omega) hBo (by omega) hbx hby ?_ ?_ ?_ ?_ ?_ ?_ ?_ ?_).mono ?_
      · exact old5 b hb.2 (by omega) (hfb b hb.1)
      · exact old5 b hb.2 (by omega) (hfb b hb.1)
      · rw [old5 po (by omega) hpn hfpo]; exact hpo
      · simp; omega
      · rw [e4]; show B0 ≤ _ ∧ _ < _; omega
      · simp [h0]
      · simp [h3]
      · simp [h6]
      · simp
      · simp [h32, hax]
      · simp [h33]
      · simp
      · intro v H' L
        rw [hxd, hyd]
        simp only [layF, hpl]
        refine ⟨by have := L.le; omega, fun b hM hb => ?_, L.map, L.val⟩
        rw [L.get b hM hb, old5 b hM (by omega) (hfb b hb)]
    | some w =>
      simp [found, tz113, Hp.skip_get]
      rw [store_at (c := [nI 0, .str [], nI 0, nI 0]) (c' := [nI 1, .str w, nI 0, nI 0]) (v := thingOf w) (e := 113) (o := false) ts113 (by simp [Hp.skip_get, Hp.new_get_eq]) (by simp [thingOf]) (by simp [thingOf])]
      simp
      refine G.genH fun H3 hH3 => ?_
      have n3 : H3.next = H.next + 6 := by rw [hH3]; simp [Hp.put_next, Hp.skip_next, Hp.new_next, n2]
      have g3 : ∀ b, b ≠ H2.next → H3.get b = H2.get b := by intro b hb; rw [hH3]; simp [Hp.put_get_ne, Hp.skip_get, Hp.new_get_ne, hb]
      have t3 : H3.get H2.next = some (.cells [nI 1, .str w, nI 0, nI 0] 113 false) := by rw [hH3, Hp.put_get_eq]
      clear hH3
      repeat refine G.seq ?_
      refine G.run v25_16 ?_
      simp
      refine G.cond (t := false) (by simp) (G.skip ?_)
      repeat refine G.seq ?_
      refine G.run v25_19 ?_
      have t2c : H3.get H1.next = some (.cells [nI 1, .str ys[i], nI 0, nI 0] 113 false) := (g3 _ (by omega)).trans t2
      have l7 : loadS Tryz.env 113 H3 (H1.next, 0) = some (thingOf ys[i]) := load_agg tg113 ts113 t2c rfl
      have l8 : loadS Tryz.env 113 H3 (H2.next, 0) = some (thingOf w) := load_agg tg113 ts113 t3 rfl
      have old3 : ∀ b, b < H.next → H3.get b = H.get b := fun b hb => (g3 b (by omega)).trans (old2 b hb)
      have hm3 : MapAt H3 M p := ⟨mods, (g3 M (by omega)).trans hmm⟩
      simp [l7, l8, thing_eq]
      refine G.inBlock ?_
      repeat refine G.seq ?_
      refine G.run v25_20 ?_
      simp
      by_cases hw : w = ys[i]
      · refine G.cond (t := false) (by simp [hw]) (G.skip (G.inBlock ?_))
        refine G.run v25_23 ?_
        simp [h34, n_add (E := Tryz.env) 3 true i 1 (by omega)]
        refine G.inLoop ?_
        refine (ih (i + 1) _ H3 p f fr (by omega) hm3 (hx.move (hbx.mono fun b hb => old3 b (by omega))) (hy.move (hby.mono fun b hb => old3 b (by omega))) ((old3 po hpn).trans hpo) (hf.move (hbf.mono fun b hb => old3 b hb.2)) (by omega) hMB (by omega) hBo (by omega) hbx hby
          (hbf.mono fun b hb => by omega) ?_ ?_ ?_ ?_ ?_ ?_ ?_).mono ?_
        · simp [h0]
        · simp [h3]
        · simp [h6]
        · simp [h10]
        · simp [h32, hax]
        · simp [h33]
        · simp
        · intro v H' L
          rw [hxd, hyd]
          simp only [layF, hpl, if_pos hw]
          refine ⟨by have := L.le; omega, fun b hM hb => ?_, L.map, L.val⟩
          rw [L.get b hM hb, old3 b (by omega)]
      · refine G.cond (t := true) (by simp [hw]) ?_
        repeat refine G.seq ?_
        refine G.run v25_21 ?_
        simp [h0, h10]
        have hms : MapAt H3.skip M p := hm3
        refine (forget_spec (l := fr) (p := p) (by omega) hms ((hf.move (hbf.mono fun b hb => old3 b hb.2) : StrSl H3 f fr).move (hbf.mono fun b hb => rfl)) (by rw [Hp.skip_next]; omega) (hbf.mono fun b hb => by rw [Hp.skip_next]; omega)).use ?_
        rintro v H4 ⟨f1, f2⟩
        simp
        repeat refine G.seq ?_
        refine G.run v25_22 ?_
        simp
        refine G.ret fn25 (l := [.nilSlice, .bool false]) (by rw [res25]; simp [resL, resS]) ?_
        rw [hxd, hyd]
        simp only [layF, hpl, if_neg hw]
        have := f1.le
        rw [Hp.skip_next] at this
        refine ⟨by omega, fun b hM hb => ?_, f2, .nilSlice, rfl, .nil, trivial⟩
        rw [f1.get b hM (by rw [Hp.skip_next]; omega), Hp.skip_get, old3 b (by omega)]

/-- lay -/
theorem lay_ok {d M : Nat} {ax ay : AV} {pred : List Nat} {lit : AV} {xs ys : List (List Nat)} {H : Hp} {p : PM (List Nat)} (hlen : xs.length = ys.length) (hsm : xs.length < 1000) (hm : MapAt H M p) (hx : TmSl H ax xs) (hy : TmSl H ay ys) (hM : M < H.next)
    (hbx : Blk (fun b => b < H.next) ax) (hby : Blk (fun b => b < H.next) ay) :
    Go.Ab.Fn Tryz.env (d + 2) 25 [.map M, .agg [.str pred, ax], .agg [.str pred, ay], lit] H (fun v H' => LaySpec H.next M H H' (layF p [] xs ys) v) := by
  refine Fn.enter sm25 fk25 fn25 body25 (by rw [nt25]; exact Nat.le_of_ble_eq_true rfl) (by rw [nt25]; decide) ?_
  rw [nt25]
  have a0 : argS [.map M, .agg [.str pred, ax], .agg [.str pred, ay], lit] 0 = .map M := rfl
  have a1 : argS [.map M, .agg [.str pred, ax], .agg [.str pred, ay], lit] 1 = .agg [.str pred, ax] := rfl
  have a2 : argS [.map M, .agg [.str pred, ax], .agg [.str pred, ay], lit] 2 = .agg [.str pred, ay] := rfl
  have a3 : argS [.map M, .agg [.str pred, ax], .agg [.str pred, ay], lit] 3 = lit := rfl
  generalize argS [.map M, .agg [.str pred, ax], .agg [.str pred, ay], lit] = s at a0 a1 a2 a3
  repeat refine G.seq ?_
  refine G.run v25_0 ?_
  simp [a1, a2]
  refine G.genH fun H1 hH1 => ?_
  have n1 : H1.next = H.next + 2 := by rw [hH1]; rfl
  have g1 : ∀ b, b < H.next → H1.get b = H.get b := by
    intro b hb; rw [hH1, Hp.new_get_ne _ _ _ (by rw [Hp.new_next]; omega), Hp.new_get_ne _ _ _ (by omega)]
  have t5 : H1.get H.next = some (.cells [.str pred, ax] 27 false) := by
    rw [hH1, Hp.new_get_ne _ _ _ (by rw [Hp.new_next]; omega), Hp.new_get_eq _ _ _ rfl]
  have t6 : H1.get (H.next + 1) = some (.cells [.str pred, ay] 27 false) := by
    rw [hH1]; exact Hp.new_get_eq _ _ _ rfl
  clear hH1
  repeat refine G.seq ?_
  refine G.run v25_1 ?_
  have l1 : loadS Tryz.env 9 H1 (H.next, 0) = some (.str pred) := load_one tg9 ts9 t5 rfl
  have l2 : loadS Tryz.env 9 H1 (H.next + 1, 0) = some (.str pred) := load_one tg9 ts9 t6 rfl
  have l3 : loadS Tryz.env 25 H1 (H.next, 1) = some ax := load_one tg25 ts25 t5 rfl
  have l4 : loadS Tryz.env 25 H1 (H.next + 1, 1) = some ay := load_one tg25 ts25 t6 rfl
  have x1 : lenS Tryz.env 25 ax = some (nI xs.length) := hx.len tu25
  have x2 : lenS Tryz.env 25 ay = some (nI ys.length) := hy.len tu25
  simp [Hp.new_next, tf27_0, tf27_1, l1, l2, l3, l4, x1, x2, hlen]
  refine G.cond (t := false) (by simp) (G.skip ?_)
  repeat refine G.seq ?_
  refine G.run v25_3 ?_
  simp
  repeat refine G.seq ?_
  refine G.run v25_4 ?_
  simp [tf27_1, l3, x1]
  refine G.block (G.loop ?_)
  obtain ⟨mods, hmm⟩ := hm
  refine (lay_loop (lit := lit) (po := H.next + 1) (B0 := H.next) (pred := .str pred) hlen hsm xs.length 0 _ H1 p .nilSlice [] (by omega) ⟨mods, (g1 M hM).trans hmm⟩ (hx.move (hbx.mono g1)) (hy.move (hby.mono g1)) t6 .nil (by simp) hM (by omega) (by omega) (by omega) hbx hby trivial
    ?_ ?_ ?_ ?_ ?_ ?_ ?_).mono ?_
  · simp [a0]
  · simp [a3]
  · simp
  · simp
  · simp
  · simp
  · simp
  · intro v H' L
    refine ⟨by have := L.le; omega, fun b hM hb => ?_, L.map, L.val⟩
    rw [L.get b hM hb, g1 b hb]
end
end Go.Proofs
end
