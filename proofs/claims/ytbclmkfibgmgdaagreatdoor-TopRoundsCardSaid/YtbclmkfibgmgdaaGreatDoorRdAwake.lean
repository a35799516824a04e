/- 'awake' returns true, in every world, and leaves what was there as it was. The abstract machine's tables, with what is told, are the program's. Conditions: none. -/
import Derived.Test.YtbclmkfibgmgdaaGreatDoorRdEnvOk
import Derived.Test.YtbclmkfibgmgdaaGreatDoorRdK4
import Derived.Test.YtbclmkfibgmgdaaGreatDoorRdYB
import Derived.Test.YtbclmkfibgmgdaaGreatDoorRdEnvT
section
namespace Go.Proofs
open Go Go.Ab

theorem isTrue_ret {r : CT (AV × Heap)} (h : isTrue r = true) : ∃ h', r = .ret (.bool true, h') := by
  unfold isTrue at h
  split at h
  · exact ⟨_, rfl⟩
  · cases h

theorem Tryz.noSum : SumOk Tryz.env0 Tryz.prog := fun _ _ h => by cases h

theorem awake_calls (w : World) : Calls Tryz.prog 4 #[] w fun e w' => e = .returned (.bool true) ∧ Step (fresh w) w w' := by
  obtain ⟨h', hres⟩ := isTrue_ret t1
  refine (calls_of Tryz.envOk0 Tryz.follows Tryz.noSum hres (μ := fun _ => none) (args' := #[]) .nil (hrel_empty Tryz.env0 w 17 0 []) (fun _ _ => rfl)).mono ?_
  rintro e w' ⟨v', μ', rfl, _, _, hv, hs, _⟩
  cases hv
  exact ⟨rfl, hs⟩
#print axioms awake_calls
end Go.Proofs
end
section
namespace Go.Proofs
open Go Go.Ab
theorem Tryz.envOk : EnvOk Tryz.env Tryz.prog := ⟨Tryz.envOk0.types, Tryz.envOk0.funcs, Tryz.envOk0.calls, Tryz.envOk0.mixed, Tryz.envOk0.codes, Tryz.envOk0.eqs, Tryz.envOk0.keys⟩

theorem objR {μ : Mu} {p : Pl} {o : AObj} {ob : Obj} (r : OR' Tryz.env0 μ p o ob) : OR' Tryz.env μ p o ob := by
  cases r with
  | cells a b c d e f => exact .cells a b c d e f
  | map r => exact .map r
  | str z => exact .str z
  | noIter z => exact .noIter z
  | iter z e => exact .iter z e
  | loop a b c k => exact .loop a b c k
  | deferred r => exact .deferred r
  | taken => exact .taken
  | ro a b => exact .ro a b
theorem hrelR {O : Own} {μ : Mu} {h : Heap} {hp : Array Obj} (r : HRel Tryz.env0 O μ h hp) : HRel Tryz.env O μ h hp :=
  ⟨fun b o hb => let ⟨p, ob, h1, h2, h3⟩ := r.obj b o hb; ⟨p, ob, h1, h2, objR h3⟩, r.inj, r.own, r.size, r.up, r.iter, r.ro, r.nro⟩

/-- the blocks that were there are as they were -/
theorem hrel_step {E : Env} {O : Own} {μ : Mu} {h : Heap} {w w' : World} (r : HRel E O μ h w.heap) (s : Step (fresh w) w w') : HRel E O μ h w'.heap := by
  have keep : ∀ c, c < w.heap.size → w'.heap[c]? = w.heap[c]? := fun c hc => s.keep c (by show ¬ (w.heap.size ≤ c); omega)
  refine ⟨fun b o hb => ?_, r.inj, r.own, fun b p hp => Nat.lt_of_lt_of_le (r.size b p hp) s.size, fun c hc => r.up c (Nat.le_trans s.size hc), fun b m mods seen p pm es mo h1 h2 h3 h4 => ?_, r.ro, r.nro⟩
  · obtain ⟨p, ob, e1, e2, e3⟩ := r.obj b o hb
    exact ⟨p, ob, e1, (keep _ (r.size b p e1)).trans e2, e3⟩
  · have hi := r.iter b m mods seen p pm es mo h1 h2 h3 h4
    refine ⟨hi.1, fun e es' clock since sb stepped q1 q2 => ?_⟩
    rw [keep _ (r.size m pm h4)] at q1
    rw [keep _ (r.size b p h3)] at q2
    exact hi.2 e es' clock since sb stepped q1 q2

/-- no places in it -/
def flat : AV → Bool
  | .int _ _ => true
  | .str _ => true
  | .bool _ => true
  | _ => false
theorem flat_vr {μ ν : Mu} {v : AV} {x : Value} (hf : flat v = true) (h : VR μ v x) : VR ν v x := by
  cases h <;> first | exact .int _ _ | exact .str _ | exact .bool _ | cases hf
theorem flat_vrl {μ ν : Mu} : ∀ {l : List AV} {x : List Value}, l.all flat = true → VRL μ l x → VRL ν l x
  | _, _, _, .nil => .nil
  | _, _, hf, .cons h t => by
    simp only [List.all_cons, Bool.and_eq_true] at hf
    exact .cons (flat_vr hf.1 h) (flat_vrl hf.2 t)

noncomputable def retIs (v : AV) (r : CT (AV × Heap)) : Bool := match r with | .ret (v', _) => (match v', v with | .int k a, .int l b => decide (k = l) && intEq a b | .str a, .str b => natsEq a b | .bool a, .bool b => boolEq a b | _, _ => false) | _ => false
theorem retIs_ok {v : AV} {r : CT (AV × Heap)} (h : retIs v r = true) : ∃ h', r = .ret (v, h') := by
  unfold retIs at h
  split at h
  · rename_i v' h'
    split at h
    · rename_i k a l b
      simp only [Bool.and_eq_true, decide_eq_true_eq] at h
      obtain ⟨rfl, h2⟩ := h
      rw [(intEq_iff _ _).1 h2]; exact ⟨_, rfl⟩
    · rw [(natsEq_iff _ _).1 h]; exact ⟨_, rfl⟩
    · rw [(boolEq_iff _ _).1 h]; exact ⟨_, rfl⟩
    · cases h
  · cases h

/-- what a closed call without places says of each call like it -/
theorem told_of {f : FuncId} {args : List AV} {v : AV} {n d : Nat} (ha : args.all flat = true) (hv : flat v = true) (hrun : retIs v (call Tryz.env0 n d f args ⟨.full none 17, 0, []⟩) = true) {O : Own} {args' : Array Value} {cs : List Frame} {μ : Mu} {h : Heap} {w : World}
    (hr0 : VRL μ args args'.toList) (r : HRel Tryz.env O μ h w.heap) (hb : Bound μ h) : CallR Tryz.env O Tryz.prog f args' .normal cs μ h w (v, h) := by
  obtain ⟨h', hres⟩ := retIs_ok hrun
  have hc := call_ok Tryz.envOk0 (run_ok Tryz.envOk0 Tryz.follows Tryz.noSum n d (fresh w)) f args args' .normal cs (fun _ => none) ⟨.full none 17, 0, []⟩ w (flat_vrl ha hr0) (hrel_empty Tryz.env0 w 17 0 []) (fun _ _ => rfl) (.inl rfl)
  have hres : callN Tryz.env0 (runFr Tryz.env0 n d) f args ⟨.full none 17, 0, []⟩ = .ret (v, h') := hres
  rw [hres] at hc
  obtain ⟨h0, μ', w', v', a1, a2, a3, a4, a5, fr⟩ := hc.of_ret
  exact ⟨h0, μ, w', v', Gr.refl μ h, hb, flat_vr hv a3, ⟨fun c hcO => a4.keep c fun hle => hcO (r.up c hle), a4.size, a4.tape, a4.os, a4.output⟩, hrel_step r a4, fr⟩

set_option maxRecDepth 1000000
noncomputable def chk46 (s : List Nat) (k : Nat) : Bool := retIs (.int .i64 0) (call Tryz.env0 3000 30 46 [.str s, .int .i64 (.ofNat k)] ⟨.full none 17, 0, []⟩)
noncomputable def chk16 (n : Nat) : Bool := retIs (.str [48 + n]) (call Tryz.env0 3000 30 16 [.int .i64 (.ofNat n)] ⟨.full none 17, 0, []⟩)
theorem run46a : chk46 [112] 1 = true := by kernel_rfl
theorem run46b : chk46 [101] 1 = true := by kernel_rfl
theorem run46c : nameL.all (fun s => chk46 s 2) = true := by kernel_rfl
theorem run16 : [0, 1, 2, 3, 4].all chk16 = true := by kernel_rfl

theorem run4 : retIs (.bool true) (call Tryz.env0 30000 100 4 [] ⟨.full none 17, 0, []⟩) = true := by
  obtain ⟨h', e⟩ := isTrue_ret t1
  rw [e]; rfl
theorem Tryz.sumOk : SumOk Tryz.env Tryz.prog := by
  intro f S hS O args args' cs μ h w x ha r hb hx
  have hS : toldR f = some S := hS
  unfold toldR at hS
  split at hS
  · cases hS
    unfold told4 at hx
    split at hx
    · cases hx
      exact told_of (n := 30000) (d := 100) rfl rfl run4 ha r hb
    · cases hx
  · cases hS
    unfold told16 at hx
    split at hx
    · rename_i n
      split at hx
      · rename_i hn
        cases hx
        have h16 : chk16 n = true := List.all_eq_true.1 run16 n (by simp; omega)
        exact told_of (n := 3000) (d := 30) rfl rfl h16 ha r hb
      · cases hx
    · cases hx
  · cases hS
    unfold told46 at hx
    split at hx
    · rename_i s k
      split at hx
      · rename_i hw
        cases hx
        have h46 : chk46 s k = true := by
          rcases hw with ⟨rfl, rfl | rfl⟩ | ⟨rfl, hs⟩
          · exact run46a
          · exact run46b
          · exact List.all_eq_true.1 run46c s hs
        exact told_of (n := 3000) (d := 30) rfl rfl h46 ha r hb
      · cases hx
    · cases hx
  · cases hS
#print axioms Tryz.sumOk
end Go.Proofs
end
