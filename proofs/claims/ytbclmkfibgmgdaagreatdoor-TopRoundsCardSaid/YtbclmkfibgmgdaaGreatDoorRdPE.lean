/- The pure facts of all lists, together. Conditions: none. -/
import Derived.Test.YtbclmkfibgmgdaaGreatDoorRdPR0
import Derived.Test.YtbclmkfibgmgdaaGreatDoorRdPR1
import Derived.Test.YtbclmkfibgmgdaaGreatDoorRdPR2
import Derived.Test.YtbclmkfibgmgdaaGreatDoorRdPR3
import Derived.Test.YtbclmkfibgmgdaaGreatDoorRdFM
namespace Go.Ab
set_option maxRecDepth 100000
theorem lists_eq : lists = [[1], [2], [3], [4], [5], [1, 1], [1, 2], [1, 3], [1, 4], [1, 5], [2, 1], [2, 2], [2, 3], [2, 4], [2, 5], [3, 1], [3, 2], [3, 3], [3, 4], [3, 5], [4, 1], [4, 2], [4, 3], [4, 4], [4, 5], [5, 1], [5, 2], [5, 3], [5, 4], [5, 5], [1, 1, 1], [1, 1, 2], [1, 1, 3], [1, 1, 4], [1, 1, 5], [1, 2, 1], [1, 2, 2], [1, 2, 3], [1, 2, 4], [1, 2, 5], [1, 3, 1], [1, 3, 2], [1, 3, 3], [1, 3, 4], [1, 3, 5], [1, 4, 1], [1, 4, 2], [1, 4, 3], [1, 4, 4], [1, 4, 5], [1, 5, 1], [1, 5, 2], [1, 5, 3], [1, 5, 4], [2, 1, 1], [2, 1, 2], [2, 1, 3], [2, 1, 4], [2, 1, 5], [2, 2, 1], [2, 2, 2], [2, 2, 3], [2, 2, 4], [2, 2, 5], [2, 3, 1], [2, 3, 2], [2, 3, 3], [2, 3, 4], [2, 3, 5], [2, 4, 1], [2, 4, 2], [2, 4, 3], [2, 4, 4], [2, 5, 1], [2, 5, 2], [2, 5, 3], [3, 1, 1], [3, 1, 2], [3, 1, 3], [3, 1, 4], [3, 1, 5], [3, 2, 1], [3, 2, 2], [3, 2, 3], [3, 2, 4], [3, 2, 5], [3, 3, 1], [3, 3, 2], [3, 3, 3], [3, 3, 4], [3, 4, 1], [3, 4, 2], [3, 4, 3], [3, 5, 1], [3, 5, 2], [4, 1, 1], [4, 1, 2], [4, 1, 3], [4, 1, 4], [4, 1, 5], [4, 2, 1], [4, 2, 2], [4, 2, 3], [4, 2, 4], [4, 3, 1], [4, 3, 2], [4, 3, 3], [4, 4, 1], [4, 4, 2], [4, 5, 1], [5, 1, 1], [5, 1, 2], [5, 1, 3], [5, 1, 4], [5, 2, 1], [5, 2, 2], [5, 2, 3], [5, 3, 1], [5, 3, 2], [5, 4, 1]] := by kernel_rfl
theorem rows : lists.all (fun A => rowOk A && minOk A) = true := by
  rw [lists_eq]
  simp only [List.all_cons, List.all_nil, Bool.and_true, row0, row1, row2, row3, row4, row5, row6, row7, row8, row9, row10, row11, row12, row13, row14, row15, row16, row17, row18, row19, row20, row21, row22, row23, row24, row25, row26, row27, row28, row29, row30, row31, row32, row33, row34, row35, row36, row37, row38, row39, row40, row41, row42, row43, row44, row45, row46, row47, row48, row49, row50, row51, row52, row53, row54, row55, row56, row57, row58, row59, row60, row61, row62, row63, row64, row65, row66, row67, row68, row69, row70, row71, row72, row73, row74, row75, row76, row77, row78, row79, row80, row81, row82, row83, row84, row85, row86, row87, row88, row89, row90, row91, row92, row93, row94, row95, row96, row97, row98, row99, row100, row101, row102, row103, row104, row105, row106, row107, row108, row109, row110, row111, row112, row113, row114, row115, row116, row117, row118, row119]
end Go.Ab
namespace Go.Proofs
open Go Go.Ab
set_option maxRecDepth 100000
/-- the names of rounds, and their numbers -/
def chkN (A : List Nat) : Bool := decide (ringsFrom 0 A = (ringsN 0 A).map nmA) && ((ringsN 0 A).all (fun a => decide (a.1 < 31) && decide (a.2 < 31)) && ((ringsFrom 0 A).all (fun t => decide (t.length = 2) && t.all (fun x => decide (x ∈ nameL))) && (decide ((ringsFrom 0 A).length ≤ 64) && decide (0 < (ringsFrom 0 A).length))))
theorem names : lists.all chkN = true := by kernel_rfl

theorem mem_lists {A : List Nat} (h0 : 0 < A.length) (h3 : A.length ≤ 3) (he : ∀ n, n ∈ A → 1 ≤ n ∧ n ≤ 5) (hs : A.sum ≤ 10) : A ∈ lists := by
  have one : ∀ n, 1 ≤ n ∧ n ≤ 5 → n = 1 ∨ n = 2 ∨ n = 3 ∨ n = 4 ∨ n = 5 := fun n hn => by omega
  have m5 : ∀ n, n ∈ A → n ∈ [1, 2, 3, 4, 5] := fun n hn => by simpa using one n (he n hn)
  unfold lists
  simp only [List.mem_append]
  match A, h0, h3, hs, m5 with
  | [a], _, _, _, m5 => exact .inl (.inl (List.mem_map.2 ⟨a, m5 a (by simp), rfl⟩))
  | [a, b], _, _, _, m5 => exact .inl (.inr (List.mem_flatMap.2 ⟨a, m5 a (by simp), List.mem_map.2 ⟨b, m5 b (by simp), rfl⟩⟩))
  | [a, b, c], _, _, hs, m5 =>
    refine .inr (List.mem_filter.2 ⟨List.mem_flatMap.2 ⟨a, m5 a (by simp), List.mem_flatMap.2 ⟨b, m5 b (by simp), List.mem_map.2 ⟨c, m5 c (by simp), rfl⟩⟩⟩, Nat.ble_eq_true_of_le hs⟩)
  | _ :: _ :: _ :: _ :: _, _, h3, _, _ => simp at h3

theorem isB_ok {o : Option Bool} {w : Bool} (h : isB o w = true) : o = some w := by
  unfold isB at h
  cases o with
  | none => cases h
  | some r =>
    have h : eqB r w = true := h
    cases r <;> cases w <;> first | rfl | cases h
theorem small_erase {l : List (Nat × Nat)} (h : Small l) (i : Nat) : Small (l.eraseIdx i) := fun a ha => h a (List.mem_of_mem_eraseIdx ha)
theorem map_erase {α β : Type} (f : α → β) : ∀ (l : List α) (i : Nat), (l.map f).eraseIdx i = (l.eraseIdx i).map f
  | [], _ => by simp
  | a :: l, 0 => rfl
  | a :: l, i + 1 => by simp [map_erase f l i]
theorem minN_ok : ∀ {n : Nat} {l out : List (Nat × Nat)} {i : Nat}, Small l → minN n l i = some out → minGo 60000 n (l.map nmA) i = some (out.map nmA) ∧ Small out
  | 0, _, _, _, _, h => by cases h
  | n + 1, l, out, i, hl, h => by
    rw [minN] at h
    rw [minGo]
    cases hb : Nat.blt i l.length with
    | true =>
      rw [hb] at h
      have hi : i < l.length := Nat.le_of_ble_eq_true hb
      rw [if_pos (by simpa using hi), map_erase]
      simp only [cond_true] at h
      cases hg : gLaid (l.eraseIdx i) l with
      | none => rw [hg] at h; cases h
      | some r =>
        rw [hg] at h
        rw [gLaid_ok (small_erase hl i) hl hg]
        cases r with
        | true => exact minN_ok (small_erase hl i) h
        | false => exact minN_ok hl h
    | false =>
      rw [hb] at h
      have hi : ¬ i < l.length := fun hlt => by rw [show Nat.blt i l.length = true from Nat.ble_eq_true_of_le hlt] at hb; cases hb
      rw [if_neg (by simpa using hi)]
      cases h
      exact ⟨rfl, hl⟩
theorem minGo_good {N : Nat} : ∀ {n : Nat} {l out : List (List (List Nat))} {i : Nat}, GoodBody IsName l → minGo N n l i = some out → GoodBody IsName out
  | 0, _, _, _, _, h => by cases h
  | n + 1, l, out, i, hl, h => by
    rw [minGo] at h
    split at h
    · split at h
      · exact minGo_good (good_erase hl i) h
      · exact minGo_good hl h
      · cases h
    · cases h; exact hl

structure Named (A : List Nat) : Prop where
  eq : ringsFrom 0 A = (ringsN 0 A).map nmA
  small : Small (ringsN 0 A)
  good : GoodBody IsName (ringsFrom 0 A)
  pos : 0 < (ringsFrom 0 A).length
theorem named {A : List Nat} (h : A ∈ lists) : Named A := by
  have := List.all_eq_true.1 names A h
  simp only [chkN, Bool.and_eq_true, decide_eq_true_eq, List.all_eq_true] at this
  obtain ⟨h1, h2, h3, h4, h5⟩ := this
  exact ⟨h1, h2, ⟨h4, h3⟩, h5⟩
theorem pair_ok {A B : List Nat} (hA : A ∈ lists) (hB : B ∈ lists) : laidF (ringsFrom 0 A) (ringsFrom 0 B) 60000 = some (resL' (nwinds B A)) := by
  have h := List.all_eq_true.1 rows A hA
  simp only [Bool.and_eq_true] at h
  have hp := isB_ok (List.all_eq_true.1 h.1 B hB)
  rw [(named hA).eq, (named hB).eq]
  exact gLaid_ok (named hA).small (named hB).small hp
end Go.Proofs
