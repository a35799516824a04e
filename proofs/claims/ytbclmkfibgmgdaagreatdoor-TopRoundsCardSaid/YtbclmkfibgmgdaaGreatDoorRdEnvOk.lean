/- The abstract machine's tables are the program's. Conditions: none. -/
import Derived.Test.YtbclmkfibgmgdaaGreatDoorRdEnvT
import Derived.Test.YtbclmkfibgmgdaaGreatDoorRdYF
import Derived.KernelRfl
import Derived.Eval
namespace Go.Ab

/-- no leaf lies deeper -/
def T.dle {α : Type} : T α → Nat → Bool
  | .leaf _, _ => true
  | .node _ _, 0 => false
  | .node l r, n + 1 => l.dle n && r.dle n
theorem T.has_dle {α : Type} : ∀ {t : T α} {n k : Nat}, t.dle n = true → t.has k = true → k < 2 ^ n
  | .leaf _, n, k, _, h => by
    have : k = 0 := by simpa [T.has] using h
    subst this; exact Nat.two_pow_pos n
  | .node _ _, 0, k, h, _ => by simp [T.dle] at h
  | .node l r, n + 1, k, h, hh => by
    simp only [T.dle, Bool.and_eq_true] at h
    simp only [T.has] at hh
    rw [Nat.pow_succ]
    split at hh
    · have := T.has_dle h.2 hh; omega
    · have := T.has_dle h.1 hh; omega

theorem table_ok {α : Type} {t : T (Option α)} {n m : Nat} {l : List α} (hd : t.dle n = true) (hl : (List.range (2 ^ n)).map (fun k => t.get none k) = l.map some ++ List.replicate m none) {k : Nat} {x : α} (h : t.get none k = some x) : l[k]? = some x := by
  have hk : k < 2 ^ n := by
    refine T.has_dle hd ?_
    cases hh : t.has k with
    | true => rfl
    | false => rw [T.get_of_has none t k hh] at h; cases h
  have h1 : ((List.range (2 ^ n)).map (fun k => t.get none k))[k]? = some (some x) := by simp [hk, h]
  rw [hl] at h1
  rcases Nat.lt_or_ge k l.length with h2 | h2
  · rw [List.getElem?_append_left (by simpa using h2)] at h1
    simpa [h2] using h1
  · rw [List.getElem?_append_right (by simpa using h2)] at h1
    have := List.mem_of_getElem? h1
    rw [List.mem_replicate] at this
    cases this.2

theorem run_enter {P : Program} {f : FuncId} {fn : Func} (h : P.funcs[f]? = some fn) (hb : fn.body.isSome = true) (hn : (fn.name == "runtime.NumGoroutine") = false) (args : Array Value) (w : World) : (callFunc f args).run P w = .ok (.enter f args) w := by
  have hb2 : fn.body.isNone = false := by cases hh : fn.body with | none => rw [hh] at hb; cases hb | some _ => rfl
  unfold callFunc
  simp only [Sem.run_bind, run_program, Result.andThen_ok, h, hn, hb2, Bool.false_eq_true, if_false, Sem.run_pure]

noncomputable def bodyChk (q : Nat → List Nat) : Option Func → Bool
  | some fn => (match fn.body with | some c => codeChk q c | none => true) && !(fn.name == "runtime.NumGoroutine")
  | none => true

end Go.Ab

namespace Go.Proofs
open Go Go.Ab
set_option maxRecDepth 100000
theorem Tryz.tt_dle : T.dle Tryz.tt 10 = true := by kernel_rfl
theorem Tryz.ft_dle : T.dle Tryz.ft 10 = true := by kernel_rfl
theorem Tryz.tt_eq : (List.range (2 ^ 10)).map (fun k => Tryz.tt.get none k) = Tryz.types.toList.map some ++ List.replicate 418 none := by kernel_rfl
theorem Tryz.ft_eq : (List.range (2 ^ 10)).map (fun k => Tryz.ft.get none k) = Tryz.funcs.toList.map some ++ List.replicate 493 none := by kernel_rfl
theorem Tryz.bodies : (List.range (2 ^ 10)).all (fun k => bodyChk (Tryz.env0.ord k) (Tryz.ft.get none k)) = true := by kernel_rfl
theorem bif_true {b x y : Bool} (h : (bif b then x else y) = true) : (b = true ∧ x = true) ∨ (b = false ∧ y = true) := by
  cases b
  · exact .inr ⟨rfl, h⟩
  · exact .inl ⟨rfl, h⟩

theorem Tryz.envOk0 : EnvOk Tryz.env0 Tryz.prog := by
  have hfn : ∀ f fn, Tryz.env0.ft.get none f = some fn → Tryz.prog.funcs[f]? = some fn := by
    intro f fn h
    have := table_ok Tryz.ft_dle Tryz.ft_eq h
    show Tryz.funcs[f]? = some fn
    rw [← Array.getElem?_toList]; exact this
  have hb : ∀ f fn, Tryz.env0.ft.get none f = some fn → bodyChk (Tryz.env0.ord f) (some fn) = true := by
    intro f fn h
    have hk : f < 2 ^ 10 := by
      refine T.has_dle Tryz.ft_dle ?_
      cases hh : T.has Tryz.ft f with
      | true => rfl
      | false => have := T.get_of_has none Tryz.ft f hh; have h : T.get none Tryz.ft f = some fn := h; rw [this] at h; cases h
    have := List.all_eq_true.1 Tryz.bodies f (List.mem_range.2 hk)
    have h : T.get none Tryz.ft f = some fn := h
    rw [h] at this
    exact this
  refine ⟨fun t i h => ?_, hfn, fun f fn h hs args w => ?_, by kernel_rfl, fun f fn c h hc => ?_, fun t a ht b r xs ys μ hr ha hb w => ?_, fun t a ht r xs μ hr ha e w => ?_⟩
  · have := table_ok Tryz.tt_dle Tryz.tt_eq h
    have h2 : Tryz.types[t]? = some i := by rw [← Array.getElem?_toList]; exact this
    have hlt := (Array.getElem?_eq_some_iff.1 h2).1
    unfold Tables.info?
    exact (if_pos hlt).trans h2
  · have h1 := hb f fn h
    simp only [bodyChk, Bool.and_eq_true, Bool.not_eq_true'] at h1
    exact run_enter (hfn f fn h) hs h1.2 args w
  · have h1 := hb f fn h
    simp only [bodyChk, hc, Bool.and_eq_true] at h1
    exact h1.1
  · rcases bif_true ht with ⟨h1, h2⟩ | ⟨_, ht⟩
    · rw [Nat.eq_of_beq_eq_true h1]
      exact ⟨struct_eqs Tryz.underlying51 (by kernel_rfl) (.cons (k := .i .i64) (by decide) Tryz.underlying3 rfl (.cons (k := .s) (by decide) Tryz.underlying9 rfl .nil)) h2 hr ha hb, by kernel_rfl⟩
    rcases bif_true ht with ⟨h1, h2⟩ | ⟨_, ht⟩
    · rw [Nat.eq_of_beq_eq_true h1]
      exact ⟨struct_eqs Tryz.underlying162 (by kernel_rfl) (.cons (k := .i .i64) (by decide) Tryz.underlying3 rfl (.cons (k := .i .i64) (by decide) Tryz.underlying3 rfl (.cons (k := .i .i64) (by decide) Tryz.underlying3 rfl (.cons (k := .s) (by decide) Tryz.underlying9 rfl .nil)))) h2 hr ha hb, by kernel_rfl⟩
    rcases bif_true ht with ⟨h1, h2⟩ | ⟨_, ht⟩
    · rw [Nat.eq_of_beq_eq_true h1]
      exact ⟨array_eqs (k := .s) Tryz.underlying241 (i := Tryz.t9) (by kernel_rfl) rfl Tryz.underlying9 h2 hr ha hb, by kernel_rfl⟩
    rcases bif_true ht with ⟨h1, h2⟩ | ⟨_, ht⟩
    · rw [Nat.eq_of_beq_eq_true h1]
      exact ⟨array_eqs (k := .i .u8) Tryz.underlying275 (i := Tryz.t5) (by kernel_rfl) rfl Tryz.underlying5 h2 hr ha hb, by kernel_rfl⟩
    rcases bif_true ht with ⟨h1, h2⟩ | ⟨_, ht⟩
    · rw [Nat.eq_of_beq_eq_true h1]
      exact ⟨array_eqs (k := .i .u8) Tryz.underlying336 (i := Tryz.t5) (by kernel_rfl) rfl Tryz.underlying5 h2 hr ha hb, by kernel_rfl⟩
    rcases bif_true ht with ⟨h1, h2⟩ | ⟨_, ht⟩
    · rw [Nat.eq_of_beq_eq_true h1]
      exact ⟨struct_eqs2 Tryz.underlying113 (by kernel_rfl) (FieldsOk2.nest (ks2 := [.i .i64, .s]) (by decide) Tryz.underlying51 (by kernel_rfl : _ = some Tryz.t51) rfl (by kernel_rfl) (.cons (k := .i .i64) (by decide) Tryz.underlying3 rfl (.cons (k := .s) (by decide) Tryz.underlying9 rfl .nil)) rfl (.cons (k := .i .i64) (by decide) Tryz.underlying3 rfl (.cons (k := .i .i64) (by decide) Tryz.underlying3 rfl .nil))) h2 hr ha hb, by kernel_rfl⟩
    cases ht
  · rcases bif_true ht with ⟨h1, h2⟩ | ⟨_, ht⟩
    · rw [Nat.eq_of_beq_eq_true h1]
      exact struct_keys Tryz.underlying51 (.cons (k := .i .i64) (by decide) Tryz.underlying3 rfl (.cons (k := .s) (by decide) Tryz.underlying9 rfl .nil)) h2 ha e
    rcases bif_true ht with ⟨h1, h2⟩ | ⟨_, ht⟩
    · rw [Nat.eq_of_beq_eq_true h1]
      exact struct_keys Tryz.underlying162 (.cons (k := .i .i64) (by decide) Tryz.underlying3 rfl (.cons (k := .i .i64) (by decide) Tryz.underlying3 rfl (.cons (k := .i .i64) (by decide) Tryz.underlying3 rfl (.cons (k := .s) (by decide) Tryz.underlying9 rfl .nil)))) h2 ha e
    rcases bif_true ht with ⟨h1, h2⟩ | ⟨_, ht⟩
    · rw [Nat.eq_of_beq_eq_true h1]
      exact array_keys (k := .s) Tryz.underlying241 (i := Tryz.t9) (by kernel_rfl) rfl Tryz.underlying9 h2 ha e
    rcases bif_true ht with ⟨h1, h2⟩ | ⟨_, ht⟩
    · rw [Nat.eq_of_beq_eq_true h1]
      exact array_keys (k := .i .u8) Tryz.underlying275 (i := Tryz.t5) (by kernel_rfl) rfl Tryz.underlying5 h2 ha e
    rcases bif_true ht with ⟨h1, h2⟩ | ⟨_, ht⟩
    · rw [Nat.eq_of_beq_eq_true h1]
      exact array_keys (k := .i .u8) Tryz.underlying336 (i := Tryz.t5) (by kernel_rfl) rfl Tryz.underlying5 h2 ha e
    rcases bif_true ht with ⟨h1, h2⟩ | ⟨_, ht⟩
    · rw [Nat.eq_of_beq_eq_true h1]
      exact struct_keys2 Tryz.underlying113 (FieldsOk2.nest (ks2 := [.i .i64, .s]) (by decide) Tryz.underlying51 (by kernel_rfl : _ = some Tryz.t51) rfl (by kernel_rfl) (.cons (k := .i .i64) (by decide) Tryz.underlying3 rfl (.cons (k := .s) (by decide) Tryz.underlying9 rfl .nil)) rfl (.cons (k := .i .i64) (by decide) Tryz.underlying3 rfl (.cons (k := .i .i64) (by decide) Tryz.underlying3 rfl .nil))) h2 ha e
    cases ht
theorem Tryz.follows : Tryz.prog.follows .rangeFuncRecover = true := by kernel_rfl
#print axioms Tryz.envOk0
end Go.Proofs
