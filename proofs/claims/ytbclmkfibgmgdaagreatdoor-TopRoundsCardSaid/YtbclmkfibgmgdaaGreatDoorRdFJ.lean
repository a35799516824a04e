/- Literals in memory. ringed. Grow, Concat. Conditions: none. -/
import Derived.Test.YtbclmkfibgmgdaaGreatDoorRdFF
import Derived.Test.YtbclmkfibgmgdaaGreatDoorRdSI
section
namespace Go.Proofs
open Go Go.Ab
set_option linter.unusedVariables false
set_option linter.unusedSimpArgs false
noncomputable section

/-- the cells of literals of one predicate 'e' -/
def cellsL : List AV → List AV
  | [] => []
  | a :: es => litC [101] a ++ cellsL es
theorem cellsL_length : ∀ es, (cellsL es).length = es.length * 8
  | [] => rfl
  | a :: es => by simp only [cellsL, List.length_append, cellsL_length es, List.length_cons, List.length_nil]; omega
theorem cellsL_append : ∀ es bs, cellsL (es ++ bs) = cellsL es ++ cellsL bs
  | [], _ => rfl
  | a :: es, bs => by simp only [List.cons_append, cellsL, cellsL_append es bs, List.append_assoc]
theorem cut_skip {α : Type} {o : Nat} : ∀ (l r : List α) (n : Nat), cut (l ++ r) (l.length + o) n = cut r o n
  | [], r, n => by simp
  | x :: l, r, n => by
    rw [List.cons_append, List.length_cons, show l.length + 1 + o = (l.length + o) + 1 by omega, cut_succ, cut_skip l r n]
theorem splice_skip (v : List AV) (o : Nat) : ∀ (l r : List AV), splice v (l.length + o) (l ++ r) = (splice v o r).map (l ++ ·)
  | [], r => by simp
  | x :: l, r => by
    rw [List.cons_append, List.length_cons, show l.length + 1 + o = (l.length + o) + 1 by omega, splice_succ, splice_skip v o l r]
    cases splice v o r <;> rfl
theorem cellsL_split (es : List AV) (i : Nat) (h : i < es.length) : ∃ l r, cellsL es = l ++ (litC [101] es[i] ++ r) ∧ l.length = i * 8 ∧ ∀ a', cellsL (es.set i a') = l ++ (litC [101] a' ++ r) := by
  refine ⟨cellsL (es.take i), cellsL (es.drop (i + 1)), ?_, ?_, fun a' => ?_⟩
  · have : es = es.take i ++ es[i] :: es.drop (i + 1) := by simp
    conv => lhs; rw [this]
    rw [cellsL_append]; rfl
  · rw [cellsL_length, List.length_take, Nat.min_eq_left (by omega)]
  · have : es.set i a' = es.take i ++ a' :: es.drop (i + 1) := by rw [List.set_eq_take_append_cons_drop, if_pos h]
    rw [this, cellsL_append]; rfl
theorem cut_lit8 (a : AV) (r : List AV) : cut (litC [101] a ++ r) 0 8 = some (litC [101] a) := by
  simp [litC]
theorem cut_lit2 (a : AV) (r : List AV) : cut (litC [101] a ++ r) 1 2 = some [.str [101], a] := by
  simp [litC]
theorem cut_at8 {es : List AV} {i : Nat} (h : i < es.length) : cut (cellsL es) (i * 8) 8 = some (litC [101] es[i]) := by
  obtain ⟨l, r, e1, e2, _⟩ := cellsL_split es i h
  rw [e1, ← e2]
  exact (cut_skip (o := 0) l _ 8).trans (cut_lit8 _ _)
theorem cut_at2 {es : List AV} {i : Nat} (h : i < es.length) : cut (cellsL es) (i * 8 + 1) 2 = some [.str [101], es[i]] := by
  obtain ⟨l, r, e1, e2, _⟩ := cellsL_split es i h
  rw [e1, ← e2]
  exact (cut_skip (o := 1) l _ 2).trans (cut_lit2 _ _)
theorem nth_at2 {es : List AV} {i : Nat} (h : i < es.length) : nth (cellsL es) (i * 8 + 2) = some es[i] := by
  obtain ⟨l, r, e1, e2, _⟩ := cellsL_split es i h
  rw [e1, ← e2, nth_eq, List.getElem?_append_right (by omega), show l.length + 2 - l.length = 2 by omega]; rfl
theorem splice_at2 {es : List AV} {i : Nat} (h : i < es.length) (a' : AV) : splice [a'] (i * 8 + 2) (cellsL es) = some (cellsL (es.set i a')) := by
  obtain ⟨l, r, e1, e2, e3⟩ := cellsL_split es i h
  rw [e3, e1, ← e2, splice_skip]
  simp [litC]
theorem takeE_len {α : Type} : ∀ (l r : List α), takeE (l ++ r) l.length = some l
  | [], r => by simp
  | x :: l, r => by rw [List.cons_append, List.length_cons, takeE_succ, takeE_len l r]; rfl
theorem cut_mid {α : Type} (l m r : List α) : cut (l ++ (m ++ r)) l.length m.length = some m := by
  have := cut_skip (o := 0) l (m ++ r) m.length
  rw [Nat.add_zero] at this
  rw [this, cut_zero, takeE_len]
theorem over_app : ∀ (v c r : List AV), c.length = v.length → over v (c ++ r) = some (v ++ r)
  | [], [], r, _ => rfl
  | x :: v, y :: c, r, h => by
    rw [List.cons_append, over_cons, over_app v c r (by simpa using h)]; rfl
theorem splice_mid (l m v r : List AV) (h : m.length = v.length) : splice v l.length (l ++ (m ++ r)) = some (l ++ (v ++ r)) := by
  have := splice_skip v 0 l (m ++ r)
  rw [Nat.add_zero] at this
  rw [this, splice_zero, over_app v m r h]; rfl
/-- may stand in a cell, and be looked at -/
abbrev Plainly (a : AV) : Prop := scalars [a] = true ∧ AV.beq a a = true
theorem _root_.Go.Ab.TmSl.plainly {H : Hp} {a : AV} {t : List (List Nat)} (h : TmSl H a t) : Plainly a := by
  cases h with
  | nil => exact ⟨rfl, rfl⟩
  | mk _ _ => exact ⟨rfl, beq_slice ..⟩
theorem scalars_append : ∀ a b, scalars (a ++ b) = (scalars a && scalars b)
  | [], b => by simp
  | x :: a, b => by
    show (Bool.rec false (scalars (a ++ b)) (scalar x) : Bool) = ((Bool.rec false (scalars a) (scalar x) : Bool) && scalars b)
    rw [scalars_append a b]
    cases scalar x <;> rfl
theorem cellsL_scalars : ∀ es, (∀ a, a ∈ es → Plainly a) → scalars (cellsL es) = true
  | [], _ => rfl
  | a :: es, h => by
    have h1 : scalars [a] = true := (h a (by simp)).1
    have h2 : scalars (litC [101] a) = true := by
      have : scalars (litC [101] a) = (scalars [nI 1, .str [101]] && (scalars [a] && scalars [nI 0, nI 0, .str [], nI 0, .str []])) := by
        rw [← scalars_append, ← scalars_append]; rfl
      rw [this, h1]; rfl
    rw [cellsL, scalars_append, h2, cellsL_scalars es fun x hx => h x (by simp [hx])]; rfl
theorem cellsL_beq : ∀ es, (∀ a, a ∈ es → Plainly a) → AV.beqL (cellsL es) (cellsL es) = true
  | [], _ => rfl
  | a :: es, h => by
    rw [beqL_iff]
    intro x hx
    rw [cellsL, List.mem_append] at hx
    rcases hx with hx | hx
    · simp only [litC, List.mem_cons, List.mem_nil_iff, or_false] at hx
      rcases hx with rfl | rfl | rfl | rfl | rfl | rfl | rfl | rfl
      · rfl
      · rfl
      · exact (h x (by simp)).2
      · rfl
      · rfl
      · rfl
      · rfl
      · rfl
    · exact (beqL_iff _).1 (cellsL_beq es fun x hx => h x (by simp [hx])) x hx

/-- the terms of each literal -/
def TmsL (H : Hp) : List AV → List (List (List Nat)) → Prop
  | [], [] => True
  | a :: es, t :: l => TmSl H a t ∧ Blk (fun b => b < H.next) a ∧ TmsL H es l
  | _, _ => False
theorem TmsL.length {H : Hp} : ∀ {es : List AV} {l : List (List (List Nat))}, TmsL H es l → es.length = l.length
  | [], [], _ => rfl
  | _ :: _, _ :: _, h => congrArg Nat.succ (TmsL.length h.2.2)
theorem TmsL.move {H H' : Hp} (hle : H.next ≤ H'.next) : ∀ {es : List AV} {l : List (List (List Nat))}, TmsL H es l → (∀ b c, b < H.next → H.get b = some (.cells c 51 false) ∨ H.get b = some (.cells c 51 true) → H'.get b = H.get b) → TmsL H' es l
  | [], [], _, _ => trivial
  | a :: es, t :: l, h, g => by
    refine ⟨?_, h.2.1.mono fun b hb => by omega, TmsL.move hle h.2.2 g⟩
    have h1 := h.1
    have h2 := h.2.1
    cases h1 with
    | nil => exact .nil
    | @mk b cap op c o _ e1 e2 =>
      refine .mk ((g b c h2 ?_).trans e1) e2
      cases o
      · exact .inl e1
      · exact .inr e1
theorem TmsL.kept {H H' : Hp} {es : List AV} {l : List (List (List Nat))} (h : TmsL H es l) (k : Kept H H') : TmsL H' es l := h.move k.le fun b c hb _ => k.get b hb
theorem TmsL.append {H : Hp} : ∀ {es : List AV} {l : List (List (List Nat))} {bs : List AV} {m : List (List (List Nat))}, TmsL H es l → TmsL H bs m → TmsL H (es ++ bs) (l ++ m)
  | [], [], _, _, _, h => h
  | _ :: _, _ :: _, _, _, h, g => ⟨h.1, h.2.1, TmsL.append h.2.2 g⟩
theorem TmsL.get {H : Hp} : ∀ {es : List AV} {l : List (List (List Nat))} (h : TmsL H es l) (i : Nat) {a : AV} {t : List (List Nat)}, es[i]? = some a → l[i]? = some t → TmSl H a t ∧ Blk (fun b => b < H.next) a
  | a :: es, t :: l, h, 0, _, _, e1, e2 => by cases e1; cases e2; exact ⟨h.1, h.2.1⟩
  | a :: es, t :: l, h, i + 1, _, _, e1, e2 => TmsL.get h.2.2 i (by simpa using e1) (by simpa using e2)
  | [], [], _, i, _, _, e1, _ => by simp at e1
theorem TmsL.set {H : Hp} : ∀ {es : List AV} {l : List (List (List Nat))} (h : TmsL H es l) (i : Nat) {a' : AV} {t : List (List Nat)}, l[i]? = some t → TmSl H a' t → Blk (fun b => b < H.next) a' → TmsL H (es.set i a') l
  | a :: es, t :: l, h, 0, _, _, e2, g1, g2 => by cases e2; exact ⟨g1, g2, h.2.2⟩
  | a :: es, t :: l, h, i + 1, _, _, e2, g1, g2 => ⟨h.1, h.2.1, TmsL.set h.2.2 i (by simpa using e2) g1 g2⟩
  | [], [], _, i, _, _, e2, _, _ => by simp at e2
theorem TmsL.take {H : Hp} : ∀ {es : List AV} {l : List (List (List Nat))} (n : Nat), TmsL H es l → TmsL H (es.take n) (l.take n)
  | _, _, 0, _ => by simp [TmsL]
  | [], [], n + 1, _ => trivial
  | _ :: _, _ :: _, n + 1, h => ⟨h.1, h.2.1, TmsL.take n h.2.2⟩
theorem TmsL.drop {H : Hp} : ∀ {es : List AV} {l : List (List (List Nat))} (n : Nat), TmsL H es l → TmsL H (es.drop n) (l.drop n)
  | _, _, 0, h => h
  | [], [], n + 1, _ => trivial
  | _ :: _, _ :: _, n + 1, h => TmsL.drop n h.2.2
theorem TmsL.plainly {H : Hp} : ∀ {es : List AV} {l : List (List (List Nat))}, TmsL H es l → ∀ a, a ∈ es → Plainly a
  | [], [], _, a, h => by cases h
  | a :: es, t :: l, h, x, hx => by
    rcases List.mem_cons.1 hx with rfl | hx
    · exact h.1.plainly
    · exact TmsL.plainly h.2.2 x hx

/-- a slice of literals, of its own size -/
def LitSl (H : Hp) (x : AV) (es : List AV) : Prop := (x = .nilSlice ∧ es = []) ∨ ∃ b op o, x = .slice b 0 es.length es.length op ∧ H.get b = some (.cells (cellsL es) 55 o) ∧ b < H.next ∧ 0 < es.length ∧ op = 9
theorem LitSl.body {H : Hp} {x : AV} {es : List AV} {l : List (List (List Nat))} (h : LitSl H x es) (ht : TmsL H es l) : BodySl H H.next [101] x l := by
  have hlen := ht.length
  refine ⟨?_⟩
  rcases h with ⟨rfl, rfl⟩ | ⟨b, op, o, rfl, h2, h3, h4⟩
  · cases l with
    | nil => exact .inl ⟨rfl, rfl⟩
    | cons _ _ => simp at hlen
  · refine .inr ⟨b, es.length, op, cellsL es, o, by rw [hlen], h3, h2, cellsL_beq es ht.plainly, fun i t hi => ?_⟩
    have hil : i < l.length := by rw [List.getElem?_eq_some_iff] at hi; exact hi.1
    have hia : i < es.length := by omega
    obtain ⟨g1, g2⟩ := ht.get i (List.getElem?_eq_getElem hia) hi
    exact ⟨es[i], cut_at8 hia, cut_at2 hia, g1, g2⟩
theorem LitSl.kept {H H' : Hp} {x : AV} {es : List AV} (h : LitSl H x es) (k : Kept H H') : LitSl H' x es := by
  rcases h with h | ⟨b, op, o, h1, h2, h3, h4⟩
  · exact .inl h
  · exact .inr ⟨b, op, o, h1, (k.get b h3).trans h2, by have := k.le; omega, h4⟩

theorem te28' : Tryz.env.elem 28 = some 55 := te28
/-- what is appended to literals: the cells of some others -/
theorem append_lits {H : Hp} {x y : AV} {es bs : List AV} {id : Nat} (hx : LitSl H x es) (hy : ∃ b off cap op c e o, y = .slice b off bs.length cap op ∧ H.get b = some (.cells c e o) ∧ cut c off (bs.length * 8) = some (cellsL bs)) (hb : 0 < bs.length) (hbp : ∀ a, a ∈ bs → Plainly a)
    (hl : es.length + bs.length < 1000) (hid : Blk (fun b => b ≠ id) x) :
    ∃ H', appendS Tryz.env 28 (some 28) x y id H = some (.slice id 0 (es.length + bs.length) (es.length + bs.length) 9, H') ∧ H'.next = H.next ∧ H'.get id = some (.cells (cellsL (es ++ bs)) 55 true) ∧ (∀ c, c ≠ id → Blk (fun b => c ≠ b) x → H'.get c = H.get c) := by
  obtain ⟨yb, yoff, ycap, yop, yc, ye, yo, rfl, hyg, hycut⟩ := hy
  have hti : Tryz.env.tt.get none 55 = some Tryz.t55 := rfl
  have hnew : newCellsS Tryz.env 55 8 false (.slice yb yoff bs.length ycap yop) H = some (bs.length, cellsL bs) := by
    unfold newCellsS
    show (some bs.length).bind (fun n => (firstS 8 n H (.slice yb yoff bs.length ycap yop)).map fun l => (n, l)) = _
    show (((H.get yb).bind cellsOf).bind fun c => cut c.1 yoff (Nat.mul bs.length 8)).map _ = _
    rw [hyg]
    show (cut yc yoff (bs.length * 8)).map _ = _
    rw [hycut]; rfl
  have hbear : ∀ m, m < 1001 → bears m Tryz.t55.bytes = true := by
    intro m hm
    unfold bears
    have h1 : Tryz.t55.bytes ≤ 1000000 := Nat.le_of_ble_eq_true rfl
    have h2 : m * Tryz.t55.bytes ≤ 1001 * 1000000 := Nat.mul_le_mul (by omega) h1
    rw [show Nat.ble (Nat.mul m Tryz.t55.bytes) 140737488355328 = true from Nat.ble_eq_true_of_le (show m * Tryz.t55.bytes ≤ 140737488355328 by omega), Nat.ble_eq_true_of_le (show m ≤ 1099511627776 by omega)]; rfl
  have hzo : zeroOk Tryz.env 55 8 = true := rfl
  have hsz : Tryz.t55.size = 8 := rfl
  have happ : ∀ n1, lenSl x = n1 → n1 + bs.length < 1000 → appendS Tryz.env 28 (some 28) x (.slice yb yoff bs.length ycap yop) id H = appendToS x 8 55 id H bs.length (cellsL bs) := by
    intro n1 h1 h2
    unfold appendS
    rw [te28']; simp only [hti, show Tryz.env.isNum (some 28) = some false from rfl, hsz, hnew, h1]
    rw [hbear (Nat.add n1 bs.length) (show n1 + bs.length < 1001 by omega), hzo]; rfl
  rcases hx with ⟨rfl, rfl⟩ | ⟨b, op, o, rfl, h2, h3, h4⟩
  · refine ⟨H.put id (.cells (cellsL bs) 55 true), ?_, rfl, Hp.put_get_eq _ _ _, fun c hc _ => Hp.put_get_ne _ _ _ _ hc⟩
    rw [happ 0 rfl (by simpa using hl)]
    obtain ⟨n, hn⟩ : ∃ n, bs.length = n + 1 := ⟨bs.length - 1, by omega⟩
    unfold appendToS
    simp only [hn, List.length_nil, Nat.zero_add]
  · refine ⟨bif Nat.beq op 0 then H.put id (.cells (cellsL es ++ cellsL bs) 55 true) else (H.put id (.cells (cellsL es ++ cellsL bs) 55 true)).drop b, ?_, ?_, ?_, ?_⟩
    · rw [happ es.length rfl hl]
      unfold appendToS
      simp only []
      have : Nat.ble (Nat.add es.length bs.length) es.length = false := by
        cases h : Nat.ble (Nat.add es.length bs.length) es.length with
        | false => rfl
        | true => have := Nat.le_of_ble_eq_true h; exact absurd this (by show ¬ (es.length + bs.length ≤ es.length); omega)
      rw [this]
      unfold Hp.cells
      rw [h2]
      simp only [cond_false, Option.bind_some, cellsOf_cells]
      unfold appendNewS
      have hcut : cut (cellsL es) 0 (Nat.mul es.length 8) = some (cellsL es) := by
        have := cut_all (cellsL es)
        rwa [cellsL_length] at this
      rw [hcut]
      simp only [cellsL_scalars bs hbp, natBeq_refl, Bool.and_true, Bool.or_true, cond_true]
      rfl
    · cases Nat.beq op 0 <;> rfl
    · have hib : b ≠ id := hid
      rw [cellsL_append]
      have hput : (H.put id (.cells (cellsL es ++ cellsL bs) 55 true)).get id = some (.cells (cellsL es ++ cellsL bs) 55 true) := Hp.put_get_eq _ _ _
      cases Nat.beq op 0
      · exact (Hp.drop_get_ne _ _ _ (Ne.symm hib)).trans hput
      · exact hput
    · intro c hc hcb
      have hcb : c ≠ b := hcb
      cases Nat.beq op 0
      · exact (Hp.drop_get_ne _ _ _ hcb).trans (Hp.put_get_ne _ _ _ _ hc)
      · exact Hp.put_get_ne _ _ _ _ hc
end
end Go.Proofs
end
section
namespace Go.Proofs
open Go Go.Ab
set_option linter.unusedVariables false
set_option linter.unusedSimpArgs false
noncomputable section

theorem itoa {d n : Nat} {H : Hp} {Q : AV → Hp → Prop} (hn : n < 5) (q : Q (vv (.str [48 + n])) H) : Go.Ab.Fn Tryz.env d 16 [nI n] H Q :=
  Fn.told (S := told16) (v := .str [48 + n]) rfl (fun h => if_pos hn) q
theorem Kept.room {H : Hp} {k : Nat} : Kept H ⟨H.get, H.next + k⟩ := ⟨Nat.le_add_right _ _, fun _ _ => rfl⟩

/-- the closure of ringed -/
theorem arc_ok {d i k n ci cn : Nat} {H : Hp} (hi : i < 5) (hn : n ≠ 0) (hn5 : n ≤ 5) (h1 : H.get ci = some (.cells [nI i] 3 false)) (h2 : H.get cn = some (.cells [nI n] 3 false)) (hci : ci < H.next) (hcn : cn < H.next) :
    Go.Ab.Fn Tryz.env (d + 1) 15 [nI k, .ptr ci 0, .ptr cn 0] H fun v H' => v = .agg [nI 1, .str (nameOf i (k % n))] ∧ Kept H H' := by
  refine Fn.enter sm15 fk15 fn15 body15 (by rw [nt15]; exact Nat.le_of_ble_eq_true rfl) (by rw [nt15]; decide) ?_
  rw [nt15]
  have a0 : argS [nI k, .ptr ci 0, .ptr cn 0] 0 = nI k := rfl
  have a1 : argS [nI k, .ptr ci 0, .ptr cn 0] 1 = .ptr ci 0 := rfl
  have a2 : argS [nI k, .ptr ci 0, .ptr cn 0] 2 = .ptr cn 0 := rfl
  generalize argS [nI k, .ptr ci 0, .ptr cn 0] = s at a0 a1 a2
  repeat refine G.seq ?_
  refine G.run v15_0 ?_
  simp [tz51]
  refine G.genH fun H1 hH1 => ?_
  have n1 : H1.next = H.next + 1 := by rw [hH1]; rfl
  have k1 : Kept H H1 := by rw [hH1]; exact .new
  have t1 : H1.get H.next = some (.cells [nI 0, .str []] 51 false) := by rw [hH1]; exact Hp.new_get_eq _ _ _ rfl
  clear hH1
  repeat refine G.seq ?_
  refine G.drawn rfl v15_1 w15_1 rfl ?_
  have g1 : H1.get ci = some (.cells [nI i] 3 false) := (k1.get _ hci).trans h1
  have g2 : H1.get cn = some (.cells [nI n] 3 false) := (k1.get _ hcn).trans h2
  have l1 : loadS Tryz.env 3 ⟨H1.get, H1.next + 11⟩ (ci, 0) = some (nI i) := load_one tg3 ts3 g1 rfl
  have l2 : loadS Tryz.env 3 ⟨H1.get, H1.next + 11⟩ (cn, 0) = some (nI n) := load_one tg3 ts3 g2 rfl
  have so : ∀ x : Nat, sameO (.cells [nI x] 3 false) (.cells [nI x] 3 false) = true := fun x => sameO_cells (beqL_cons (by show AV.beq (.int .i64 _) (.int .i64 _) = true; rw [AV.beq]; simp) rfl)
  have hk5 : k % n < 5 := Nat.lt_of_lt_of_le (Nat.mod_lt _ (by omega)) hn5
  have c1 : binA Tryz.env 9 true .add (.str [86]) (.str [48 + i]) = some (.str [86, 48 + i]) := bin_adds _ _ _ _ (by simp)
  have c2 : binA Tryz.env 9 true .add (.str [86, 48 + i]) (.str [95]) = some (.str [86, 48 + i, 95]) := bin_adds _ _ _ _ (by simp)
  have c3 : binA Tryz.env 9 false .add (.str [86, 48 + i, 95]) (.str [48 + k % n]) = some (.str (nameOf i (k % n))) := bin_adds _ _ _ _ (by simp)
  have c4 : binA Tryz.env 3 false .rem (nI k) (nI n) = some (nI (k % n)) := n_mod (E := Tryz.env) 3 false k n hn
  simp [a0, a1, a2, l1]
  rw [rdB_some (H := ⟨H1.get, H1.next + 11⟩) _ g1]
  refine ⟨readOk_first g1 (so i), ?_⟩
  refine itoa hi ⟨reads_ahead (by simp [bitAt]), ?_⟩
  simp [a0, a1, a2, c1, c2, l2]
  rw [rdB_some (H := ⟨H1.get, H1.next + 11⟩) _ g2]
  refine ⟨readOk_all (by simp [g2]) (so n), ?_⟩
  simp [a0, a1, a2, c4]
  refine ⟨by decide, itoa hk5 ⟨reads_ahead (by simp [bitAt]), ?_⟩⟩
  simp [c3, buildS, tz51, tu51, tk51, fillSS, tzF51_0n, tzF51_0t, tzF51_0o, tzF51_1n, tzF51_1t, tzF51_1o, ts3, ts9]
  rw [store_at (H := ⟨H1.get, H1.next + 11⟩) (c := [nI 0, .str []]) (c' := [nI 1, .str (nameOf i (k % n))]) (e := 51) (o := false) ts51 t1 (by simp) (by simp)]
  simp
  refine ⟨by decide, reads_ahead (by simp [bitAt]), ?_⟩
  refine G.ret fn15 (l := [.agg [nI 1, .str (nameOf i (k % n))]]) ?_ ⟨rfl, ?_⟩
  · rw [res15]
    have l3 : loadS Tryz.env 51 ((⟨H1.get, H1.next + 11⟩ : Hp).put H.next (.cells [nI 1, .str (nameOf i (k % n))] 51 false)) (H.next, 0) = some (.agg [nI 1, .str (nameOf i (k % n))]) := load_agg tg51 ts51 (Hp.put_get_eq _ _ _) rfl
    simp [resL, resS, l3]
  · exact (k1.trans Kept.room).put (Nat.le_refl _)
end
end Go.Proofs
end
section
namespace Go.Proofs
open Go Go.Ab
set_option linter.unusedVariables false
set_option linter.unusedSimpArgs false
noncomputable section

abbrev litZ : List AV := [nI 0, .str [], .nilSlice, nI 0, nI 0, .str [], nI 0, .str []]
theorem rep_length (z : List AV) : ∀ n, (rep z n).length = n * z.length
  | 0 => by simp [rep]
  | n + 1 => by simp only [rep, List.length_append, rep_length z n, Nat.succ_mul]; omega

/-- Grow of nothing -/
theorem grow_ok {d n : Nat} {H : Hp} (hn : n < 1000) : Go.Ab.Fn Tryz.env (d + 1) 33 [.nilSlice, nI n] H fun v H' => Kept H H' ∧ ((n = 0 ∧ v = .nilSlice) ∨ (0 < n ∧ ∃ id, v = .slice id 0 0 n 9 ∧ H.next ≤ id ∧ id < H'.next ∧ H'.get id = some (.cells (rep litZ n) 55 true))) := by
  refine Fn.enter sm33 fk33 fn33 body33 (by rw [nt33]; exact Nat.le_of_ble_eq_true rfl) (by rw [nt33]; decide) ?_
  rw [nt33]
  have a0 : argS [.nilSlice, nI n] 0 = .nilSlice := rfl
  have a1 : argS [.nilSlice, nI n] 1 = nI n := rfl
  generalize argS [.nilSlice, nI n] = s at a0 a1
  repeat refine G.seq ?_
  refine G.run v33_0 ?_
  simp
  repeat refine G.seq ?_
  refine G.run v33_1 ?_
  simp [a1]
  refine G.cond (t := false) (by simp) (G.skip ?_)
  repeat refine G.seq ?_
  refine G.run v33_3 ?_
  have cap0 : (Tryz.env.under 28).bind (capV .nilSlice) = some (nI 0) := rfl
  have len0 : lenS Tryz.env 28 .nilSlice = some (nI 0) := rfl
  have s1 : binA Tryz.env 3 false .sub (nI 0) (nI 0) = some (nI 0) := n_sub (E := Tryz.env) 3 false 0 0 (by omega) (by omega)
  have s2 : binA Tryz.env 3 false .sub (nI n) (nI 0) = some (nI n) := n_sub (E := Tryz.env) 3 false n 0 (by omega) (by omega)
  simp [a0, a1, cap0, len0, s1, s2]
  repeat refine G.seq ?_
  refine G.run v33_4 ?_
  simp
  by_cases h0 : 0 < n
  · refine G.cond (t := true) (by simp [h0]) ?_
    refine G.run v33_5 ?_
    have sl0 : sliceA Tryz.env 28 .nilSlice none (some (nI 0)) none = some .nilSlice := rfl
    have hz : Tryz.env.zero 55 = some (.agg litZ) := tz55
    have happ : ∀ (id : Nat) (H : Hp), appendS Tryz.env 28 (some 3) .nilSlice (nI n) id H = some (.slice id 0 n n 9, H.put id (.cells (rep litZ n) 55 true)) := by
      intro id H
      unfold appendS
      rw [te28]
      have hti : Tryz.env.tt.get none 55 = some Tryz.t55 := rfl
      have hnew : newCellsS Tryz.env 55 8 true (nI n) H = some (n, rep litZ n) := by
        unfold newCellsS
        simp only [asN_n, hz]
        rfl
      have hbear : bears n Tryz.t55.bytes = true := by
        unfold bears
        have h1 : Tryz.t55.bytes ≤ 1000000 := Nat.le_of_ble_eq_true rfl
        have h2 : n * Tryz.t55.bytes ≤ 1001 * 1000000 := Nat.mul_le_mul (by omega) h1
        rw [show Nat.ble (Nat.mul n Tryz.t55.bytes) 140737488355328 = true from Nat.ble_eq_true_of_le (show n * Tryz.t55.bytes ≤ 140737488355328 by omega), Nat.ble_eq_true_of_le (show n ≤ 1099511627776 by omega)]; rfl
      have hzo : zeroOk Tryz.env 55 8 = true := rfl
      simp only [hti, show Tryz.env.isNum (some 3) = some true from rfl, show Tryz.t55.size = 8 from rfl, hnew]
      rw [show Nat.add (lenSl .nilSlice) n = n from Nat.zero_add n, hbear, hzo]
      obtain ⟨m, rfl⟩ : ∃ m, n = m + 1 := ⟨n - 1, by omega⟩
      rfl
    have sl1 : ∀ id, sliceA Tryz.env 28 (.slice id 0 n n 9) none (some (nI 0)) none = some (.slice id 0 0 n 9) := by
      intro id
      unfold sliceA
      rw [tu28]
      show sliceSl 55 id 0 n n 9 none (some (nI 0)) none Tryz.env = _
      unfold sliceSl
      rw [ts55]
      show (Bool.rec none (sliceOp id 0 0 0 n 8 9 none (some (nI 0)) none) (within 0 0 n n && boundsOk (some (nI 0)) none) : Option AV) = _
      have hw : (within 0 0 n n && boundsOk (some (nI 0)) none) = true := by
        unfold within
        rw [Nat.ble_eq_true_of_le (Nat.zero_le 0), Nat.ble_eq_true_of_le (Nat.zero_le n), Nat.ble_eq_true_of_le (Nat.le_refl n)]; rfl
      rw [hw]
      show sliceOp id 0 0 0 n 8 9 none (some (nI 0)) none = _
      unfold sliceOp
      have : Nat.beq n 0 = false := by
        cases hc : Nat.beq n 0 with
        | false => rfl
        | true => have := Nat.eq_of_beq_eq_true hc; omega
      simp only [this]
      rfl
    simp [a0, cap0, len0, sl0, happ, sl1]
    repeat refine G.seq ?_
    refine G.run v33_6 ?_
    simp
    refine G.ret fn33 (l := [.slice H.next 0 0 n 9]) (by rw [res33]; simp [resL, resS]) ⟨(Kept.refl H).skipR.put (Nat.le_refl _), .inr ⟨h0, H.next, rfl, Nat.le_refl _, ?_, Hp.put_get_eq _ _ _⟩⟩
    rw [Hp.put_next, Hp.skip_next]; omega
  · refine G.cond (t := false) (by simp; omega) (G.skip ?_)
    repeat refine G.seq ?_
    refine G.run v33_6 ?_
    simp [a0]
    exact G.ret fn33 (l := [.nilSlice]) (by rw [res33]; simp [resL, resS]) ⟨.refl H, .inl ⟨by omega, rfl⟩⟩

/-- a slice of literals, or of none -/
def PartSl (H : Hp) (y : AV) (es : List AV) : Prop := ((y = .nilSlice ∨ y = .empty) ∧ es = []) ∨ ∃ b off cap op c o, y = .slice b off es.length cap op ∧ H.get b = some (.cells c 55 o) ∧ b < H.next ∧ cut c off (es.length * 8) = some (cellsL es)
theorem PartSl.len {H : Hp} {y : AV} {es : List AV} (h : PartSl H y es) : lenS Tryz.env 28 y = some (nI es.length) := by
  rw [lenS_slice y tu28]
  rcases h with ⟨rfl | rfl, rfl⟩ | ⟨b, off, cap, op, c, o, rfl, _⟩ <;> rfl
theorem PartSl.kept {H H' : Hp} {y : AV} {es : List AV} (h : PartSl H y es) (k : Kept H H') : PartSl H' y es := by
  rcases h with h | ⟨b, off, cap, op, c, o, h1, h2, h3, h4⟩
  · exact .inl h
  · exact .inr ⟨b, off, cap, op, c, o, h1, (k.get b h3).trans h2, by have := k.le; omega, h4⟩

theorem bear55 {m : Nat} (hm : m < 1001) : bears m Tryz.t55.bytes = true := by
  unfold bears
  have h1 : Tryz.t55.bytes ≤ 1000000 := Nat.le_of_ble_eq_true rfl
  have h2 : m * Tryz.t55.bytes ≤ 1001 * 1000000 := Nat.mul_le_mul (by omega) h1
  rw [show Nat.ble (Nat.mul m Tryz.t55.bytes) 140737488355328 = true from Nat.ble_eq_true_of_le (show m * Tryz.t55.bytes ≤ 140737488355328 by omega), Nat.ble_eq_true_of_le (show m ≤ 1099511627776 by omega)]; rfl
theorem part_new {H : Hp} {y : AV} {es : List AV} (h : PartSl H y es) : newCellsS Tryz.env 55 8 false y H = some (es.length, cellsL es) := by
  rcases h with ⟨rfl | rfl, rfl⟩ | ⟨b, off, cap, op, c, o, rfl, h2, h3, h4⟩
  · rfl
  · rfl
  · unfold newCellsS
    show (some es.length).bind (fun n => (firstS 8 n H (.slice b off es.length cap op)).map fun l => (n, l)) = _
    show (((H.get b).bind cellsOf).bind fun c => cut c.1 off (Nat.mul es.length 8)).map _ = _
    rw [h2]
    show (cut c off (es.length * 8)).map _ = _
    rw [h4]; rfl
/-- what is grown: the literals as far as they were appended -/
def GrowSl (H : Hp) (x : AV) (n : Nat) (es : List AV) : Prop := (n = 0 ∧ x = .nilSlice ∧ es = []) ∨ ∃ b rest, x = .slice b 0 es.length n 9 ∧ H.get b = some (.cells (cellsL es ++ rest) 55 true) ∧ rest.length = (n - es.length) * 8 ∧ es.length ≤ n ∧ 0 < n ∧ b < H.next
theorem append_part {H : Hp} {x y : AV} {n id : Nat} {es bs : List AV} (hx : GrowSl H x n es) (hy : PartSl H y bs) (hn : es.length + bs.length ≤ n) (hn2 : n < 1000) (hbp : ∀ a, a ∈ bs → Plainly a) :
    ∃ x' H', appendS Tryz.env 28 (some 28) x y id H = some (x', H') ∧ GrowSl H' x' n (es ++ bs) ∧ H'.next = H.next ∧ (∀ c, Blk (fun b => c ≠ b) x → H'.get c = H.get c) ∧ (x' = x ∨ ∃ b o m c p m', x = .slice b o m c p ∧ x' = .slice b o m' c p) := by
  have hti : Tryz.env.tt.get none 55 = some Tryz.t55 := rfl
  have hzo : zeroOk Tryz.env 55 8 = true := rfl
  have hnew := part_new hy
  have happ : ∀ n1, lenSl x = n1 → n1 + bs.length < 1001 → appendS Tryz.env 28 (some 28) x y id H = appendToS x 8 55 id H bs.length (cellsL bs) := by
    intro n1 h1 h2
    unfold appendS
    rw [te28]; simp only [hti, show Tryz.env.isNum (some 28) = some false from rfl, show Tryz.t55.size = 8 from rfl, hnew, h1]
    rw [bear55 (show Nat.add n1 bs.length < 1001 from h2), hzo]; rfl
  rcases hx with ⟨rfl, rfl, rfl⟩ | ⟨b, rest, rfl, h2, h3, h4, h5, h6⟩
  · have hbs : bs = [] := List.length_eq_zero_iff.1 (by simpa using hn)
    subst hbs
    refine ⟨.nilSlice, H, ?_, .inl ⟨rfl, rfl, rfl⟩, rfl, fun _ _ => rfl, .inl rfl⟩
    rw [happ 0 rfl (by simp)]; rfl
  · cases hbl : bs with
    | nil =>
      subst hbl
      refine ⟨.slice b 0 es.length n 9, H, ?_, .inr ⟨b, rest, by simp, by simpa using h2, by simpa using h3, by simpa using h4, h5, h6⟩, rfl, fun _ _ => rfl, .inl rfl⟩
      rw [happ es.length rfl (by simp; omega)]
      unfold appendToS
      simp only [List.length_nil]
      rw [show Nat.ble (Nat.add es.length 0) n = true from Nat.ble_eq_true_of_le (by simpa using h4)]; rfl
    | cons a0 bs0 =>
      rw [← hbl]
      have hlen : 0 < bs.length := by rw [hbl]; simp
      obtain ⟨mid, rest', e1, e2⟩ : ∃ mid rest', rest = mid ++ rest' ∧ mid.length = (cellsL bs).length := by
        refine ⟨rest.take (bs.length * 8), rest.drop (bs.length * 8), by simp, ?_⟩
        rw [cellsL_length, List.length_take, h3, Nat.min_eq_left]
        have : bs.length ≤ n - es.length := by omega
        omega
      refine ⟨.slice b 0 (es.length + bs.length) n 9, H.put b (.cells (cellsL (es ++ bs) ++ rest') 55 true), ?_, .inr ⟨b, rest', by simp, Hp.put_get_eq _ _ _, ?_, by simpa using hn, h5, h6⟩, rfl, fun c hc => Hp.put_get_ne _ _ _ _ hc, .inr ⟨_, _, _, _, _, _, rfl, rfl⟩⟩
      · rw [happ es.length rfl (by omega)]
        unfold appendToS
        simp only []
        rw [show Nat.ble (Nat.add es.length bs.length) n = true from Nat.ble_eq_true_of_le hn]
        show appendInS b 0 es.length bs.length n 9 8 (cellsL bs) H = _
        obtain ⟨m, hm⟩ : ∃ m, bs.length = m + 1 := ⟨bs.length - 1, by omega⟩
        have hsp : splice (cellsL bs) (Nat.add 0 (Nat.mul es.length 8)) (cellsL es ++ rest) = some (cellsL (es ++ bs) ++ rest') := by
          rw [show Nat.add 0 (Nat.mul es.length 8) = (cellsL es).length by rw [cellsL_length]; exact Nat.zero_add _, e1, splice_mid _ _ _ _ e2, cellsL_append, List.append_assoc]
        rw [hm]
        unfold appendInS Hp.cells
        rw [h2]
        simp only [Option.bind_some, cellsOf_cells, hsp, cellsL_scalars bs hbp, cond_true]
        rfl
      · have : rest.length = mid.length + rest'.length := by rw [e1]; simp
        rw [e2, cellsL_length] at this
        rw [List.length_append]
        have h7 : (n - es.length) * 8 = (n - (es.length + bs.length)) * 8 + bs.length * 8 := by rw [← Nat.add_mul]; congr 1; omega
        omega

/-- one round of the first loop -/
theorem concat_r1 {d q i k m : Nat} {y y0 y1 : AV} {o : Bool} {td : List Item} {s : Store} {H : Hp} {Q : AV → Hp → Prop} (hi : i < 2) (h9 : s 9 = .slice q 0 2 2 0) (h10 : s 10 = nI 2) (h11 : s 11 = nI i) (h3 : s 3 = nI m) (hq : H.get q = some (.cells [y0, y1] 28 o)) (hy : nth [y0, y1] i = some y)
    (hlen : lenS Tryz.env 28 y = some (nI k)) (hb : m + k < 1000) (hQ : ∀ s', (∀ j, j = 0 ∨ j = 9 ∨ j = 10 → s' j = s j) → s' 3 = nI (m + k) → s' 11 = nI (i + 1) → G Tryz.env d ⟨21, 36, none⟩ (.code L21_0 :: .inLoop L21_0 :: td) s' H Q) :
    G Tryz.env d ⟨21, 36, none⟩ (.code L21_0 :: .inLoop L21_0 :: td) s H Q := by
  have ix : indexAddrA Tryz.env 83 (.slice q 0 2 2 0) (nI i) = some (.ptr q i) := by
    have := index_slice (E := Tryz.env) (b := q) (off := 0) (c := 2) (p := 0) tu83 ts28 hi
    simpa using this
  have ld : loadS Tryz.env 28 H (q, i) = some y := load_one tg28 ts28 hq hy
  refine G.seq (G.run v21_3 ?_)
  simp [h10, h11]
  refine G.seq (G.cond (t := true) (by simp [hi]) (G.skip (G.seq (G.block ?_))))
  repeat refine G.seq ?_
  refine G.run v21_4 ?_
  simp [h9, h11, ix, ld]
  repeat refine G.seq ?_
  refine G.run v21_5 ?_
  simp [h3, hlen, n_add (E := Tryz.env) 3 false m k (by omega)]
  repeat refine G.seq ?_
  refine G.run v21_6 ?_
  simp
  refine G.cond (t := false) (by simp) (G.skip (G.inBlock ?_))
  refine G.run v21_8 ?_
  simp [h11, n_add (E := Tryz.env) 3 true i 1 (by omega)]
  refine G.inLoop (hQ _ ?_ (by simp) (by simp))
  intro j hj
  rcases hj with rfl | rfl | rfl <;> simp

/-- one round of the second loop -/
theorem concat_r2 {d q i n : Nat} {x y y0 y1 : AV} {es bs : List AV} {o : Bool} {td : List Item} {s : Store} {H : Hp} {Q : AV → Hp → Prop} (hi : i < 2) (h25 : s 25 = .slice q 0 2 2 0) (h26 : s 26 = nI 2) (h27 : s 27 = nI i) (h6 : s 6 = x) (hq : H.get q = some (.cells [y0, y1] 28 o)) (hy : nth [y0, y1] i = some y)
    (hx : GrowSl H.skip x n es) (hp : PartSl H.skip y bs) (hn : es.length + bs.length ≤ n) (hn2 : n < 1000) (hbp : ∀ a, a ∈ bs → Plainly a)
    (hQ : ∀ s' H' x', (∀ j, j = 25 ∨ j = 26 → s' j = s j) → s' 6 = x' → s' 27 = nI (i + 1) → GrowSl H' x' n (es ++ bs) → H'.next = H.next + 1 → (∀ c, Blk (fun b => c ≠ b) x → H'.get c = H.get c) → (x' = x ∨ ∃ b o m c p m', x = .slice b o m c p ∧ x' = .slice b o m' c p) → G Tryz.env d ⟨21, 36, none⟩ (.code L21_1 :: .inLoop L21_1 :: td) s' H' Q) :
    G Tryz.env d ⟨21, 36, none⟩ (.code L21_1 :: .inLoop L21_1 :: td) s H Q := by
  have ix : indexAddrA Tryz.env 83 (.slice q 0 2 2 0) (nI i) = some (.ptr q i) := by
    have := index_slice (E := Tryz.env) (b := q) (off := 0) (c := 2) (p := 0) tu83 ts28 hi
    simpa using this
  have ld : loadS Tryz.env 28 H (q, i) = some y := load_one tg28 ts28 hq hy
  obtain ⟨x', H', e1, e2, e3, e4, e5⟩ := append_part (id := H.next) hx hp hn hn2 hbp
  refine G.seq (G.run v21_11 ?_)
  simp [h26, h27]
  refine G.seq (G.cond (t := true) (by simp [hi]) (G.skip (G.seq (G.block ?_))))
  repeat refine G.seq ?_
  refine G.run v21_12 ?_
  simp [h25, h27, ix, ld]
  refine G.run v21_13 ?_
  simp [h6, e1]
  refine G.inBlock (G.run v21_14 ?_)
  simp [h27, n_add (E := Tryz.env) 3 true i 1 (by omega)]
  refine G.inLoop (hQ _ H' x' ?_ (by simp) (by simp) e2 e3 e4 e5)
  intro j hj
  rcases hj with rfl | rfl <;> simp

/-- Concat of two -/
theorem concat_ok {d q : Nat} {y0 y1 : AV} {es bs : List AV} {o : Bool} {H : Hp} (hq : H.get q = some (.cells [y0, y1] 28 o)) (hqn : q < H.next) (h0 : PartSl H y0 es) (h1 : PartSl H y1 bs) (hl : es.length + bs.length < 1000) (hap : ∀ a, a ∈ es → Plainly a) (hbp : ∀ a, a ∈ bs → Plainly a) :
    Go.Ab.Fn Tryz.env (d + 2) 21 [.slice q 0 2 2 0] H fun v H' => Kept H H' ∧ LitSl H' v (es ++ bs) ∧ Blk (fun b => H.next ≤ b) v := by
  refine Fn.enter sm21 fk21 fn21 body21 (by rw [nt21]; exact Nat.le_of_ble_eq_true rfl) (by rw [nt21]; decide) ?_
  rw [nt21]
  have a0 : argS [.slice q 0 2 2 0] 0 = .slice q 0 2 2 0 := rfl
  generalize argS [.slice q 0 2 2 0] = s at a0
  repeat refine G.seq ?_
  refine G.run v21_0 ?_
  simp
  repeat refine G.seq ?_
  refine G.run v21_1 ?_
  simp
  repeat refine G.seq ?_
  refine G.run v21_2 ?_
  have lq : lenS Tryz.env 83 (.slice q 0 2 2 0) = some (nI 2) := rfl
  simp [a0, lq]
  refine G.block (G.loop ?_)
  refine concat_r1 (i := 0) (m := 0) (k := es.length) (y := y0) (by decide) (by simp) (by simp) (by simp) (by simp) hq rfl h0.len (by omega) ?_
  intro s1 p1 p2 p3
  refine concat_r1 (i := 1) (m := 0 + es.length) (k := bs.length) (y := y1) (by decide) (by rw [p1 9 (by simp)]; simp) (by rw [p1 10 (by simp)]; simp) p3 p2 hq rfl h1.len (by omega) ?_
  intro s2 q1 q2 q3
  have e0 : s2 0 = .slice q 0 2 2 0 := by rw [q1 0 (by simp), p1 0 (by simp)]; simp [a0]
  have e10 : s2 10 = nI 2 := by rw [q1 10 (by simp), p1 10 (by simp)]; simp
  refine G.seq (G.run v21_3 ?_)
  simp [e10, q3]
  refine G.seq (G.cond (t := false) (by simp) (G.exit rfl ?_))
  repeat refine G.seq ?_
  refine G.run v21_9 ?_
  simp [q2]
  refine (grow_ok (d := d) (n := es.length + bs.length) (H := H.skip) hl).use ?_
  rintro v H1 ⟨k1, hv⟩
  have k2 : Kept H H1 := k1.skip
  have hgrow : GrowSl H1 v (es.length + bs.length) [] := by
    rcases hv with ⟨e, rfl⟩ | ⟨e, id, rfl, f1, f2, f3⟩
    · exact .inl ⟨e, rfl, rfl⟩
    · refine .inr ⟨id, rep litZ (es.length + bs.length), rfl, f3, ?_, by simp, e, f2⟩
      rw [rep_length]; rfl
  have hvb : Blk (fun b => H.next ≤ b ∧ b < H1.next) v := by
    rcases hv with ⟨e, rfl⟩ | ⟨e, id, rfl, f1, f2, f3⟩
    · trivial
    · rw [Hp.skip_next] at f1; exact ⟨by omega, f2⟩
  clear hv
  simp
  repeat refine G.seq ?_
  refine G.run v21_10 ?_
  simp [e0, lq]
  refine G.block (G.loop ?_)
  have hq1 : H1.get q = some (.cells [y0, y1] 28 o) := (k2.get _ hqn).trans hq
  have hqv : Blk (fun b => q ≠ b) v := hvb.mono fun b hb => by omega
  have gsk : ∀ {H : Hp} {x : AV} {n : Nat} {es : List AV}, GrowSl H x n es → GrowSl H.skip x n es := by
    intro H x n es h
    rcases h with h | ⟨b, rest, f1, f2, f3, f4, f5, f6⟩
    · exact .inl h
    · exact .inr ⟨b, rest, f1, f2, f3, f4, f5, Nat.lt_succ_of_lt f6⟩
  refine concat_r2 (q := q) (i := 0) (n := es.length + bs.length) (x := v) (y := y0) (y0 := y0) (y1 := y1) (es := []) (bs := es) (o := o) (by decide) (by simp) (by simp) (by simp) (by simp [vv]) hq1 rfl (gsk hgrow) ((h0.kept k2).kept (Kept.refl H1).skipR) (by simp) hl hap ?_
  intro s3 H2 v2 r1 r2 r3 r4 r5 r6 r7
  have hv2 : Blk (fun b => H.next ≤ b ∧ b < H1.next) v2 := by
    rcases r7 with rfl | ⟨b, o', m, c, p, m', rfl, rfl⟩
    · exact hvb
    · exact hvb
  have k3 : Kept H H2 := ⟨by have := k2.le; omega, fun c hc => (r6 c (hvb.mono fun b hb => by omega)).trans (k2.get c hc)⟩
  have hq2 : H2.get q = some (.cells [y0, y1] 28 o) := (k3.get _ hqn).trans hq
  refine concat_r2 (q := q) (i := 1) (n := es.length + bs.length) (x := v2) (y := y1) (y0 := y0) (y1 := y1) (es := [] ++ es) (bs := bs) (o := o) (by decide) (by rw [r1 25 (by simp)]; simp) (by rw [r1 26 (by simp)]; simp) r3 r2 hq2 rfl (gsk r4) ((h1.kept k3).kept (Kept.refl H2).skipR) (by simp) hl hbp ?_
  intro s4 H3 v3 t1 t2 t3 t4 t5 t6 t7
  have hv3 : Blk (fun b => H.next ≤ b ∧ b < H1.next) v3 := by
    rcases t7 with rfl | ⟨b, o', m, c, p, m', rfl, rfl⟩
    · exact hv2
    · exact hv2
  have k4 : Kept H H3 := ⟨by have := k3.le; omega, fun c hc => (t6 c (hv2.mono fun b hb => by omega)).trans (k3.get c hc)⟩
  have e26 : s4 26 = nI 2 := by rw [t1 26 (by simp), r1 26 (by simp)]; simp
  refine G.seq (G.run v21_11 ?_)
  simp [e26, t3]
  refine G.seq (G.cond (t := false) (by simp) (G.exit rfl ?_))
  repeat refine G.seq ?_
  refine G.run v21_15 ?_
  simp [t2]
  refine G.ret fn21 (l := [v3]) (by rw [res21]; simp [resL, resS]) ⟨k4, ?_, hv3.mono fun b hb => hb.1⟩
  rcases t4 with ⟨f1, f2, f3⟩ | ⟨b, rest, f1, f2, f3, f4, f5, f6⟩
  · exact .inl ⟨f2, by simpa using f3⟩
  · have hr : rest = [] := List.length_eq_zero_iff.1 (by rw [f3]; simp)
    subst hr
    rw [List.append_nil] at f2
    refine .inr ⟨b, 9, true, ?_, by simpa using f2, f6, by simpa using f5, rfl⟩
    show oneOrTup [v3] = _
    rw [show oneOrTup [v3] = v3 from rfl, f1]
    simp
end
end Go.Proofs
end
