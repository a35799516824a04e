/- TopRounds in the model: it returns true, and leaves all that was there as it was. Conditions: what the parameters are. -/
import Derived.Test.YtbclmkfibgmgdaaGreatDoorRdFR
import Derived.Test.YtbclmkfibgmgdaaGreatDoorRdAwake
import Derived.Below
namespace Go.Proofs
open Go Go.Ab Go.RowKit
set_option linter.unusedVariables false
set_option linter.unusedSimpArgs false

/-- a row of numbers in memory, as a slice -/
def IntRow (w : World) (a : Option Addr) (len cap : Nat) (zs : List Int) : Prop :=
  (a = none ∧ len = 0 ∧ cap = 0) ∨ ∃ x, a = some x ∧ len ≤ cap ∧ zs.length = cap ∧ ∀ i, i < zs.length → w.cell? (x.add i) = some (.int .i64 (zs.getD i 0))

theorem vrl_ints (μ : Mu) : ∀ l : List Int, VRL μ (l.map (.int .i64)) (l.map (.int .i64))
  | [] => .nil
  | _ :: l => .cons (.int _ _) (vrl_ints μ l)

/-- what stands for a parameter -/
structure ArgR (w : World) (b : Nat) (v : Value) (l : List Int) (x : AV) (o : Option AObj) (p : Option Pl) : Prop where
  val : ∀ μ : Mu, μ b = p → VR μ x v
  sl : ∀ H : Hp, H.get b = o → RoSl H x l
  blk : Blk (fun c => c = b) x
  obj : ∀ ob, o = some ob → ∃ c q, ob = .ro c ∧ p = some q ∧ q.blk < w.heap.size ∧ ∀ (E : Env) (μ : Mu), ∃ ob, w.heap[q.blk]? = some ob ∧ OR' E μ q (.ro c) ob
  place : ∀ q, p = some q → q.blk < w.heap.size

theorem arg_of {w : World} {a : Option Addr} {len cap : Nat} {zs : List Int} (h : IntRow w a len cap zs) (b : Nat) : ∃ x o p, ArgR w b (.slice a len cap) (zs.take len) x o p := by
  rcases h with ⟨rfl, rfl, rfl⟩ | ⟨x, rfl, hle, hlen, hc⟩
  · exact ⟨.nilSlice, none, none, ⟨fun _ _ => .nilSlice, fun _ _ => .inl ⟨.inl rfl, by simp⟩, trivial, fun _ h => (by cases h), fun _ h => (by cases h)⟩⟩
  · by_cases h0 : len = 0
    · subst h0
      exact ⟨.empty, none, none, ⟨fun _ _ => .empty, fun _ _ => .inl ⟨.inr rfl, by simp⟩, trivial, fun _ h => (by cases h), fun _ h => (by cases h)⟩⟩
    · have c0 := hc 0 (by omega)
      have hx0 : x.add 0 = x := by unfold Addr.add; rw [if_pos rfl]
      rw [hx0] at c0
      unfold World.cell? at c0
      cases hb : w.heap[x.block]? with
      | none => rw [hb] at c0; cases c0
      | some ob =>
        rw [hb] at c0
        cases ob <;> try (cases c0; done)
        rename_i arr e fr
        simp only [] at c0
        cases hs : x.spot with
        | some s => rw [hs] at c0; simp at c0
        | none =>
          have hat : ∀ i, i < zs.length → arr[x.off + i]? = some (.int .i64 (zs.getD i 0)) := by
            intro i hi
            have := hc i hi
            unfold World.cell? Addr.add at this
            by_cases hi0 : i = 0
            · subst hi0
              rw [if_pos rfl, hb, hs] at this
              simpa using this
            · rw [if_neg hi0] at this
              simp only [hb] at this
              simpa using this
          have hsz : x.off + len ≤ arr.size := by
            have := hat (len - 1) (by omega)
            have := (Array.getElem?_eq_some_iff.1 this).1
            omega
          have hlt : x.block < w.heap.size := (Array.getElem?_eq_some_iff.1 hb).1
          have hmid : (arr.toList.drop x.off).take len = (zs.take len).map (Value.int .i64) := by
            refine List.ext_getElem? fun i => ?_
            by_cases hi : i < len
            · rw [List.getElem?_take_of_lt hi, List.getElem?_drop, Array.getElem?_toList, hat i (by omega), List.getElem?_map, List.getElem?_take_of_lt hi, List.getD_eq_getElem?_getD]
              rw [List.getElem?_eq_getElem (show i < zs.length by omega)]; rfl
            · rw [List.getElem?_eq_none (by simp; omega), List.getElem?_eq_none (by simp; omega)]
          have harr : arr = (arr.toList.take x.off ++ (zs.take len).map (Value.int .i64) ++ (arr.toList.drop (x.off + len))).toArray := by
            rw [← hmid, List.append_assoc, ← List.drop_drop, List.take_append_drop, List.take_append_drop]
          refine ⟨.slice b 0 len cap 0, some (.ro ((zs.take len).map (.int .i64))), some ⟨x.block, x.off, 0, 0, 0, false⟩, ⟨fun μ hm => ?_, fun H hH => .inr ⟨b, cap, _, ?_, hH, fun i n hi => ?_⟩, rfl, ?_, ?_⟩⟩
          · have := VR.slice (μ := μ) (b := b) (off := 0) (n := len) (c := cap) (op := 0) hm (fun h => absurd rfl h)
            obtain ⟨bl, of_, sp⟩ := x
            cases hs
            simpa using this
          · rw [List.length_take, Nat.min_eq_left (by omega)]
          · rw [nth_eq, List.getElem?_map, hi]; rfl
          · intro ob hob
            cases hob
            refine ⟨_, _, rfl, rfl, hlt, fun E μ => ⟨_, hb, ?_⟩⟩
            rw [harr]
            exact .ro (by rw [List.length_take, Array.length_toList]; show min x.off arr.size = x.off; omega) (vrl_ints μ _)
          · intro q hq; cases hq; exact hlt

theorem rounds_calls (w : World) (a b : Option Addr) (la ca lb cb : Nat) (za zb : List Int) (ha : IntRow w a la ca za) (hb : IntRow w b lb cb zb) (hla : la < 9223372036854775808) (hlb : lb < 9223372036854775808) :
    Calls Tryz.prog 3 #[.slice a la ca, .slice b lb cb] w fun e w' => e = .returned (.bool true) ∧ Below w.heap.size w w' := by
  obtain ⟨x, o0, p0, rx⟩ := arg_of ha 0
  obtain ⟨y, o1, p1, ry⟩ := arg_of hb 1
  let H : Hp := ⟨fun c => if c = 0 then o0 else if c = 1 then o1 else none, 2⟩
  have g0 : H.get 0 = o0 := rfl
  have g1 : H.get 1 = o1 := rfl
  obtain ⟨v, H', hv, N, hN⟩ := rounds_ok (d := 0) (x := x) (y := y) (l := za.take la) (m := zb.take lb) (H := H) (by rw [List.length_take]; omega) (by rw [List.length_take]; omega) (rx.sl H g0) (ry.sl H g1)
    (rx.blk.mono fun c hc => by rw [hc]; exact Nat.zero_lt_succ 1) (ry.blk.mono fun c hc => by rw [hc]; exact Nat.lt_succ_self 1)
  subst hv
  have hdep : ∀ c, c < N + 2 → (T.full (none : Option AObj) (N + 2)).has c = true := fun c hc => has_full none (N + 2) c (Nat.lt_trans hc Nat.lt_two_pow_self)
  let t : T (Option AObj) := ((T.full none (N + 2)).set 0 o0).set 1 o1
  have hget : ∀ c, t.get none c = H.get c := by
    intro c
    show (((T.full none (N + 2)).set 0 o0).set 1 o1).get none c = if c = 0 then o0 else if c = 1 then o1 else none
    by_cases h1 : c = 1
    · subst h1
      rw [T.get_set_eq, T.has_set, hdep 1 (by omega)]; rfl
    · rw [T.get_set_ne _ _ _ _ _ h1]
      by_cases h0 : c = 0
      · subst h0
        rw [T.get_set_eq, hdep 0 (by omega)]; rfl
      · rw [T.get_set_ne _ _ _ _ _ h0, T.get_full, if_neg h0, if_neg h1]
  have hhas : ∀ c, c < N → t.has c = true := by
    intro c hc
    show (((T.full none (N + 2)).set 0 o0).set 1 o1).has c = true
    rw [T.has_set, T.has_set]; exact hdep c (by omega)
  obtain ⟨h', _, hres⟩ := hN N N (Nat.le_refl _) (Nat.le_refl _) ⟨t, 2, []⟩ ⟨rfl, hget, hhas⟩
  let μ : Mu := fun c => if c = 0 then p0 else if c = 1 then p1 else none
  have m0 : μ 0 = p0 := rfl
  have m1 : μ 1 = p1 := rfl
  have hro : ∀ c o, Heap.get ⟨t, 2, []⟩ c = some o → ∃ cs q, o = .ro cs ∧ μ c = some q ∧ q.blk < w.heap.size ∧ ∃ ob, w.heap[q.blk]? = some ob ∧ OR' Tryz.env μ q (.ro cs) ob := by
    intro c o hc
    have hc : H.get c = some o := (hget c).symm.trans hc
    have hc2 : (if c = 0 then o0 else if c = 1 then o1 else none) = some o := hc
    by_cases h0 : c = 0
    · subst h0
      obtain ⟨cs, q, e1, e2, e3, e4⟩ := rx.obj o (by simpa using hc2)
      exact ⟨cs, q, e1, m0.trans e2, e3, e4 _ _⟩
    · by_cases h1 : c = 1
      · subst h1
        obtain ⟨cs, q, e1, e2, e3, e4⟩ := ry.obj o (by simpa using hc2)
        exact ⟨cs, q, e1, m1.trans e2, e3, e4 _ _⟩
      · rw [if_neg h0, if_neg h1] at hc2; cases hc2
  have hpl : ∀ c q, μ c = some q → q.blk < w.heap.size := by
    intro c q hc
    have hc : (if c = 0 then p0 else if c = 1 then p1 else none) = some q := hc
    by_cases h0 : c = 0
    · rw [if_pos h0] at hc; exact rx.place q hc
    · by_cases h1 : c = 1
      · rw [if_neg h0, if_pos h1] at hc; exact ry.place q hc
      · rw [if_neg h0, if_neg h1] at hc; cases hc
  have hrel : HRel Tryz.env ⟨fun c => w.heap.size ≤ c, fun c => c < w.heap.size⟩ μ ⟨t, 2, []⟩ w.heap := by
    refine ⟨fun c o hc => ?_, fun c c' o o' p p' hc hc' how => ?_, fun c o p hc how => ?_, hpl, fun c hc => hc, fun c m mods seen p pm es mo hc => ?_, fun c cs p _ hp => hpl c p hp, fun c hc hh => ?_⟩
    · obtain ⟨cs, q, rfl, e2, _, ob, e3, e4⟩ := hro c o hc
      exact ⟨q, ob, e2, e3, e4⟩
    · obtain ⟨_, _, rfl, _⟩ := hro c o hc
      obtain ⟨_, _, rfl, _⟩ := hro c' o' hc'
      rcases how with h | h <;> cases h
    · obtain ⟨_, _, rfl, _⟩ := hro c o hc
      cases how
    · obtain ⟨_, _, h, _⟩ := hro c _ hc
      cases h
    · exact absurd hc (Nat.not_lt.2 hh)
  have hbound : Bound μ ⟨t, 2, []⟩ := by
    intro c hc
    have hc : 2 ≤ c := hc
    show (if c = 0 then p0 else if c = 1 then p1 else none) = none
    rw [if_neg (by omega), if_neg (by omega)]
  have hres : callN Tryz.env (runFr Tryz.env N 10) 3 [x, y] ⟨t, 2, []⟩ = .ret (.bool true, h') := hres
  refine (calls_of Tryz.envOk Tryz.follows Tryz.sumOk hres (μ := μ) (args' := #[.slice a la ca, .slice b lb cb]) (.cons (rx.val μ m0) (.cons (ry.val μ m1) .nil)) hrel hbound).mono ?_
  rintro e w' ⟨v', μ', rfl, _, _, hv, hs, _⟩
  cases hv
  exact ⟨rfl, hs.os, hs.tape, hs.output, hs.size, fun k hk => hs.keep k (Nat.not_le.2 hk)⟩
#print axioms rounds_calls
end Go.Proofs
