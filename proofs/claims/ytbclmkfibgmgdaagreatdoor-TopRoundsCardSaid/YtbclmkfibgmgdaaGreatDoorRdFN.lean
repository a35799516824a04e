/- TopRounds' count of arcs. Conditions: none. -/
import Derived.Test.YtbclmkfibgmgdaaGreatDoorRdFM
import Derived.Test.YtbclmkfibgmgdaaGreatDoorRdFF
namespace Go.Proofs
open Go Go.Ab
set_option linter.unusedVariables false
set_option linter.unusedSimpArgs false
noncomputable section

/-- one stays in the way of another one -/
def hides (i n k m : Nat) : Bool := !(Nat.beq k i) && Nat.beq (n % m) 0 && (!(Nat.beq n m) || Nat.blt k i)

theorem arcs_in {d i n : Nat} {x : AV} {A : List Nat} {td : List Item} {H : Hp} {Q : AV → Hp → Prop} (hl : A.length < 1000) (hx : IntSl H x A) (h0 : ∀ m, m ∈ A → m ≠ 0) : ∀ (c k : Nat) (s : Store) (acc : Bool), k + c = A.length →
    s 75 = x → s 76 = nI A.length → s 77 = nI k → s 12 = nI i → s 13 = nI n → s 14 = .bool acc →
    (∀ s', (∀ q, q < 14 ∨ (16 < q ∧ q < 77) → s' q = s q) → s' 14 = .bool (acc && aloneN A i n k (A.drop k)) → G Tryz.env d ⟨3, 132, none⟩ td s' H Q) →
    G Tryz.env d ⟨3, 132, none⟩ (.code L3_0 :: .inLoop L3_0 :: .inBlock 2 :: td) s H Q := by
  intro c
  induction c with
  | zero =>
    intro k s acc hkc h75 h76 h77 h12 h13 h14 hQ
    refine G.seq (G.run v3_15 ?_)
    simp [h76, h77]
    refine G.seq (G.cond (t := false) (by simp; omega) ?_)
    refine G.exit rfl (hQ _ (fun q hq => ?_) ?_)
    · simp only [setS_eq]; rw [if_neg (by omega)]
    · rw [List.drop_of_length_le (by omega)]
      simp [h14, aloneN]
  | succ c ih =>
    intro k s acc hkc h75 h76 h77 h12 h13 h14 hQ
    have hk : k < A.length := by omega
    obtain ⟨b, n', cc, p, hxb, hix, hld⟩ := hx.at hk
    have hm := h0 A[k] (List.getElem_mem hk)
    have hd : A.drop k = A[k] :: A.drop (k + 1) := List.drop_eq_getElem_cons hk
    refine G.seq (G.run v3_15 ?_)
    simp [h76, h77]
    refine G.seq (G.cond (t := true) (by simp; omega) ?_)
    refine G.skip (G.seq (G.block (G.seq (G.run v3_16 ?_))))
    simp [h75, h77, hxb, hix, hld]
    repeat refine G.seq ?_
    refine G.run v3_17 ?_
    have rem0 : binA Tryz.env 3 false .rem (nI n) (nI A[k]) = some (nI (n % A[k])) := n_mod (E := Tryz.env) 3 false n A[k] hm
    have key : ∀ s2 : Store, (∀ q, q < 14 ∨ (16 < q ∧ q < 78) → s2 q = s q) → s2 14 = .bool (acc && !hides i n k A[k]) →
        G Tryz.env d ⟨3, 132, none⟩ (.inBlock 3 :: .code (.region 19 R3_19 false) :: .inLoop L3_0 :: .inBlock 2 :: td) s2 H Q := by
      intro s2 q1 q2
      refine G.inBlock (G.run v3_19 ?_)
      have e77 : s2 77 = nI k := by rw [q1 77 (by omega)]; exact h77
      simp [e77, n_add (E := Tryz.env) 3 true k 1 (by omega)]
      refine G.inLoop (ih (k + 1) _ (acc && !hides i n k A[k]) (by omega) ?_ ?_ ?_ ?_ ?_ ?_ fun s' r1 r2 => hQ s' (fun q hq => ?_) ?_)
      · simp [q1, h75]
      · simp [q1, h76]
      · simp
      · simp [q1, h12]
      · simp [q1, h13]
      · simp [q2]
      · rw [r1 q hq]
        simp only [setS_eq]
        rw [if_neg (by omega), if_neg (by omega)]
        exact q1 q (by omega)
      · rw [r2, hd, aloneN, Bool.and_assoc]; rfl
    have pres : ∀ q, (q < 14 ∨ (16 < q ∧ q < 78)) → q ≠ 14 ∧ q ≠ 15 ∧ q ≠ 16 ∧ ∀ n, 78 ≤ n → q ≠ n := fun q hq => ⟨by omega, by omega, by omega, fun n hn => by omega⟩
    by_cases hki : k = i
    · have hh : hides i n k A[k] = false := by simp [hides, hki, natBeq_decide]
      simp [h77, h12, hki]
      refine G.cond (t := false) (by simp) (G.skip (key _ (fun q hq => ?_) ?_))
      · obtain ⟨p1, p2, p3, p4⟩ := pres q hq
        simp only [setS_eq]; simp [p1, p2, p3, p4]
      · simp [h14, hh]
    · by_cases hnm : n % A[k] = 0
      · have blt : Nat.blt k i = decide (k < i) := by
          cases h : Nat.blt k i with
          | true => rw [decide_eq_true (show k < i from Nat.le_of_ble_eq_true h)]
          | false => rw [decide_eq_false fun hl => by rw [show Nat.blt k i = true from Nat.ble_eq_true_of_le hl] at h; cases h]
        have hv : hides i n k A[k] = (!decide (n = A[k]) || decide (k < i)) := by simp [hides, natBeq_decide, blt, hki, hnm]
        have fin : ∀ (t : Bool) (s2 : Store), t = hides i n k A[k] → s2 100 = .bool t → (∀ q, q < 14 ∨ (16 < q ∧ q < 78) → s2 q = s q) → s2 14 = .bool acc →
            G Tryz.env d ⟨3, 132, none⟩ (.code (.cond (.tmp 100) (.region 18 R3_18 false) .skip) :: .inBlock 3 :: .code (.region 19 R3_19 false) :: .inLoop L3_0 :: .inBlock 2 :: td) s2 H Q := by
          intro t s2 e1 e2 e3 e4
          cases t with
          | true =>
            refine G.cond (t := true) (by simp [e2]) (G.run v3_18 ?_)
            simp
            refine key _ (fun q hq => ?_) ?_
            · obtain ⟨p1, p2, p3, p4⟩ := pres q hq
              simp only [setS_eq]; rw [if_neg p1]; exact e3 q hq
            · simp [← e1]
          | false =>
            refine G.cond (t := false) (by simp [e2]) (G.skip (key _ e3 ?_))
            rw [e4, ← e1]; simp
        by_cases hne : n = A[k]
        · by_cases hlt : k < i
          · have nm : n % A[k] = 0 := hnm
            simp [h77, h12, h13, hki, rem0, nm, hlt]
            simp [← hne, hlt]
            refine fin true _ (by rw [hv]; simp [hlt]) (by simp) (fun q hq => ?_) (by simp [h14])
            obtain ⟨p1, p2, p3, p4⟩ := pres q hq
            simp only [setS_eq]; simp [p1, p2, p3, p4]
          · simp [h77, h12, h13, hki, rem0, hnm, hlt]
            simp [← hne, hlt]
            refine fin false _ (by rw [hv]; simp [hlt, hne]) (by simp) (fun q hq => ?_) (by simp [h14])
            obtain ⟨p1, p2, p3, p4⟩ := pres q hq
            simp only [setS_eq]; simp [p1, p2, p3, p4]
        · simp [h77, h12, h13, hki, rem0, hnm, hne]
          refine fin true _ (by rw [hv]; simp [hne]) (by simp) (fun q hq => ?_) (by simp [h14])
          obtain ⟨p1, p2, p3, p4⟩ := pres q hq
          simp only [setS_eq]; simp [p1, p2, p3, p4]
      · have hh : hides i n k A[k] = false := by simp [hides, hnm, natBeq_decide]
        simp [h77, h12, h13, hki, rem0, hnm]
        refine G.cond (t := false) (by simp) (G.skip (key _ (fun q hq => ?_) ?_))
        · obtain ⟨p1, p2, p3, p4⟩ := pres q hq
          simp only [setS_eq]; simp [p1, p2, p3, p4]
        · simp [h14, hh]
end
end Go.Proofs
