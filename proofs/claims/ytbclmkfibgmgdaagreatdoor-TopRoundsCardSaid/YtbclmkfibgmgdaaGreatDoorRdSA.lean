/- Code, piece by piece. Runs of the abstract machine over stores and heaps that are functions. What the operations come to over stores and heaps that are functions. Appending, and what a region comes to. Conditions: none. -/
import Derived.Test.YtbclmkfibgmgdaaGreatDoorRdYB
section
namespace Go.Ab
noncomputable section
def _root_.Go.Code.kid : Code → Nat → Code
  | .seq a _, 0 => a
  | .seq _ b, 1 => b
  | .cond _ a _, 0 => a
  | .cond _ _ b, 1 => b
  | .block _ a, 0 => a
  | .loop a, 0 => a
  | .scope a, 0 => a
  | _, _ => .skip
def _root_.Go.Code.opsOf : Code → Array Oper
  | .region _ ops _ => ops
  | _ => #[]
def noOper : Oper := ⟨none, .move (.tmp 0), 0, "", #[], none⟩
def _root_.Go.Code.operAt (c : Code) (i : Nat) : Oper := (c.opsOf.toList[i]?).getD noOper
def bodyOf (f : Func) : Code := f.body.getD .skip
/-- a number of 64 bits, not negative -/
def nI (n : Nat) : AV := .int .i64 (.ofNat n)
def fieldsOfE (E : Env) (t : TypeId) : Array Field := match E.under t with | some (.struct fs) => fs | _ => #[]
def noField : Field := default
def fieldOf (fs : Array Field) (i : Nat) : Field := (fs.toList[i]?).getD noField
end
end Go.Ab
end
section
namespace Go.Ab
set_option linter.unusedVariables false
set_option linter.unusedSimpArgs false
noncomputable section

/-! stores and heaps as functions -/
abbrev Store := Nat → AV
def setS (s : Store) (k : Nat) (v : AV) : Store := fun j => if j = k then v else s j
theorem setS_eq (s : Store) (k : Nat) (v : AV) (j : Nat) : setS s k v j = if j = k then v else s j := rfl

structure Hp where
  get : Nat → Option AObj
  next : Nat
namespace Hp
def put (H : Hp) (b : Nat) (o : AObj) : Hp := ⟨fun c => if c = b then some o else H.get c, H.next⟩
def drop (H : Hp) (b : Nat) : Hp := ⟨fun c => if c = b then none else H.get c, H.next⟩
def new (H : Hp) (o : AObj) : Hp := ⟨fun c => if c = H.next then some o else H.get c, H.next + 1⟩
def skip (H : Hp) : Hp := ⟨H.get, H.next + 1⟩
theorem put_next (H : Hp) (b : Nat) (o : AObj) : (H.put b o).next = H.next := rfl
theorem drop_next (H : Hp) (b : Nat) : (H.drop b).next = H.next := rfl
theorem new_next (H : Hp) (o : AObj) : (H.new o).next = H.next + 1 := rfl
theorem skip_next (H : Hp) : H.skip.next = H.next + 1 := rfl
theorem put_get_eq (H : Hp) (b : Nat) (o : AObj) : (H.put b o).get b = some o := if_pos rfl
theorem put_get_ne (H : Hp) (b c : Nat) (o : AObj) (h : c ≠ b) : (H.put b o).get c = H.get c := if_neg h
theorem drop_get_eq (H : Hp) (b : Nat) : (H.drop b).get b = none := if_pos rfl
theorem drop_get_ne (H : Hp) (b c : Nat) (h : c ≠ b) : (H.drop b).get c = H.get c := if_neg h
theorem new_get_eq (H : Hp) (c : Nat) (o : AObj) (h : c = H.next) : (H.new o).get c = some o := if_pos h
theorem new_get_ne (H : Hp) (c : Nat) (o : AObj) (h : c ≠ H.next) : (H.new o).get c = H.get c := if_neg h
theorem skip_get (H : Hp) (c : Nat) : H.skip.get c = H.get c := rfl
def cells (H : Hp) (b : Nat) : Option (List AV × TypeId × Bool) := (H.get b).bind cellsOf
def rcells (H : Hp) (b : Nat) : Option (List AV × TypeId × Bool) := (H.get b).bind rcellsOf
def mapAt (H : Hp) (b : Nat) : Option (List (AV × AV) × Nat) := (H.get b).bind mapOf
end Hp

structure TmV (nt : Nat) (tm : T AV) (s : Store) : Prop where
  get : ∀ k, tm.get undefA k = s k
  has : ∀ k, k < nt → tm.has k = true

structure HpV (D : Nat) (h : Heap) (H : Hp) : Prop where
  next : h.next = H.next
  get : ∀ b, h.get b = H.get b
  has : ∀ b, b < D → h.t.has b = true

theorem TmV.set {nt : Nat} {tm : T AV} {s : Store} (v : TmV nt tm s) {d : Nat} (hd : d < nt) (x : AV) : TmV nt (tm.set d x) (setS s d x) := by
  refine ⟨fun k => ?_, fun k hk => by rw [T.has_set]; exact v.has k hk⟩
  unfold setS
  by_cases h : k = d
  · subst h; rw [T.get_set_eq, v.has _ hd, if_pos rfl, if_pos rfl]
  · rw [T.get_set_ne _ _ _ _ _ h, v.get, if_neg h]

def opS (s : Store) : Operand → AV
  | .tmp t => s t
  | .const v => orJunk (ofValue 6 v)
  | .global _ => .junk
  | .func f => .func f [] []
theorem TmV.operand {nt : Nat} {tm : T AV} {s : Store} (v : TmV nt tm s) (x : Operand) : operand tm x = opS s x := by
  cases x with
  | tmp t => exact v.get t
  | const v => rfl
  | global g => rfl
  | func f => rfl
theorem TmV.operands {nt : Nat} {tm : T AV} {s : Store} (v : TmV nt tm s) : ∀ l, operands tm l = l.map (opS s)
  | [] => rfl
  | x :: l => by rw [Go.Ab.operands, v.operand, v.operands l]; rfl

theorem HpV.next_mk {D : Nat} {t : T (Option AObj)} {n : Nat} {l : List Nat} {H : Hp} (v : HpV D ⟨t, n, l⟩ H) : n = H.next := v.next
theorem HpV.cells {D : Nat} {h : Heap} {H : Hp} (v : HpV D h H) (b : Nat) : h.cells b = H.cells b := by unfold Heap.cells Hp.cells; rw [v.get]
theorem HpV.rcells {D : Nat} {h : Heap} {H : Hp} (v : HpV D h H) (b : Nat) : h.rcells b = H.rcells b := by unfold Heap.rcells Hp.rcells; rw [v.get]
theorem HpV.mapAt {D : Nat} {h : Heap} {H : Hp} (v : HpV D h H) (b : Nat) : h.mapAt b = H.mapAt b := by unfold Heap.mapAt Hp.mapAt; rw [v.get]
theorem HpV.skip {D : Nat} {t : T (Option AObj)} {n : Nat} {l : List Nat} {H : Hp} (v : HpV D ⟨t, n, l⟩ H) : HpV D ⟨t, Nat.succ n, l⟩ H.skip := ⟨congrArg Nat.succ v.next, v.get, v.has⟩
theorem HpV.put {D : Nat} {h : Heap} {H : Hp} (v : HpV D h H) {b : Nat} (hb : b < D) (o : AObj) : HpV D (h.put b o) (H.put b o) := by
  refine ⟨v.next, fun c => ?_, fun c hc => (T.has_set h.t b c _).trans (v.has c hc)⟩
  show (h.put b o).get c = if c = b then some o else H.get c
  by_cases e : c = b
  · subst e
    rw [if_pos rfl]
    exact (T.get_set_eq none h.t c (some o)).trans (by rw [v.has c hb]; rfl)
  · rw [if_neg e, Heap.get_put_ne _ _ _ _ e, v.get]
theorem HpV.drop {D : Nat} {h : Heap} {H : Hp} (v : HpV D h H) (b : Nat) : HpV D (h.drop b) (H.drop b) := by
  refine ⟨v.next, fun c => ?_, fun c hc => (T.has_set h.t b c _).trans (v.has c hc)⟩
  show (h.drop b).get c = if c = b then none else H.get c
  by_cases e : c = b
  · subst e; rw [if_pos rfl, Heap.get_drop]
  · rw [if_neg e, Heap.get_drop_ne _ _ _ e, v.get]
theorem HpV.new {D : Nat} {t : T (Option AObj)} {n : Nat} {l : List Nat} {H : Hp} (v : HpV D ⟨t, n, l⟩ H) (hb : H.next < D) (o : AObj) : HpV D ⟨t.set n (some o), Nat.succ n, n :: l⟩ (H.new o) := by
  have hn := v.next_mk
  have := HpV.put v (b := n) (by omega) o
  refine ⟨congrArg Nat.succ v.next, fun c => ?_, this.has⟩
  have := this.get c
  show _ = if c = H.next then some o else H.get c
  rw [← hn]; exact this

/-! what runs come to -/
/-- 'K' is run with a fuel of calls, a fuel of the frame at hand, a store, a heap -/
def W (nt : Nat) (K : Nat → Nat → T AV → Heap → Out) (s : Store) (H : Hp) (Q : AV → Hp → Prop) : Prop :=
  ∃ v H', Q v H' ∧ ∃ N, ∀ m n D, N ≤ m → N ≤ n → N ≤ D → ∀ tm h, TmV nt tm s → HpV D h H → ∃ h', HpV D h' H' ∧ K m n tm h = .ret (v, h')

theorem W.of {nt nt' : Nat} {K K' : Nat → Nat → T AV → Heap → Out} {s s' : Store} {H H' : Hp} {Q : AV → Hp → Prop} (N0 : Nat)
    (hs : ∀ m n D, N0 ≤ m → N0 ≤ n + 1 → N0 ≤ D → ∀ tm h, TmV nt tm s → HpV D h H → ∃ n' tm' h', n ≤ n' ∧ TmV nt' tm' s' ∧ HpV D h' H' ∧ K m (n + 1) tm h = K' m n' tm' h') (w : W nt' K' s' H' Q) : W nt K s H Q := by
  obtain ⟨v, H2, q, N, hN⟩ := w
  refine ⟨v, H2, q, N + N0 + 1, fun m n D hm hn hD tm h ht hh => ?_⟩
  obtain ⟨n, rfl⟩ : ∃ k, n = k + 1 := ⟨n - 1, by omega⟩
  obtain ⟨n', tm', h', e1, e2, e3, e4⟩ := hs m n D (by omega) (by omega) (by omega) tm h ht hh
  rw [e4]
  exact hN m n' D (by omega) (by omega) (by omega) tm' h' e2 e3

section
variable (E : Env) (d : Nat) (fc : FC)
/-- a frame, its statements to do -/
def G (td : List Item) (s : Store) (H : Hp) (Q : AV → Hp → Prop) : Prop :=
  W fc.nt (fun m n tm h => loopF E (runFr E m d) fc n tm td [] h) s H Q
/-- a frame within a region -/
def GO (td : List Item) (ops rest : List Oper) (s : Store) (H : Hp) (Q : AV → Hp → Prop) : Prop :=
  W fc.nt (fun m n tm h => runOps E (runFr E m d) fc ops (fun tm ds h => loopF E (runFr E m d) fc n tm td ds h) rest tm [] h) s H Q
/-- a call -/
def Fn (f : FuncId) (args : List AV) (H : Hp) (Q : AV → Hp → Prop) : Prop :=
  ∃ v H', Q v H' ∧ ∃ N, ∀ m D, N ≤ m → N ≤ D → ∀ h, HpV D h H → ∃ h', HpV D h' H' ∧ callA E (runFr E m d) f args h = .ret (v, h')
end

section
variable {E : Env} {d : Nat} {fc : FC} {s : Store} {H : Hp} {Q : AV → Hp → Prop} {td : List Item}

theorem W.mono {nt : Nat} {K : Nat → Nat → T AV → Heap → Out} {Q' : AV → Hp → Prop} (w : W nt K s H Q) (h : ∀ v H', Q v H' → Q' v H') : W nt K s H Q' := by
  obtain ⟨v, H', q, r⟩ := w
  exact ⟨v, H', h _ _ q, r⟩
theorem G.mono {Q' : AV → Hp → Prop} (w : G E d fc td s H Q) (h : ∀ v H', Q v H' → Q' v H') : G E d fc td s H Q' := W.mono w h
theorem Fn.mono {f : FuncId} {args : List AV} {Q' : AV → Hp → Prop} (w : Fn E d f args H Q) (h : ∀ v H', Q v H' → Q' v H') : Fn E d f args H Q' := by
  obtain ⟨v, H', q, r⟩ := w
  exact ⟨v, H', h _ _ q, r⟩

/-- a step that leaves store and heap alone -/
theorem G.quiet {td' : List Item} (hs : stepTodo td = sTo td') (w : G E d fc td' s H Q) : G E d fc td s H Q := by
  refine W.of 0 (fun m n D _ _ _ tm h ht hh => ⟨n, tm, h, Nat.le_refl n, ht, hh, ?_⟩) w
  show stepTodo td E (runFr E m d) fc (loopF E (runFr E m d) fc n) tm [] h = _
  rw [hs]; rfl
theorem G.skip (w : G E d fc td s H Q) : G E d fc (.code .skip :: td) s H Q := w.quiet rfl
theorem G.label {l : Nat} (w : G E d fc td s H Q) : G E d fc (.code (.label l) :: td) s H Q := w.quiet rfl
theorem G.seq {a b : Code} (w : G E d fc (.code a :: .code b :: td) s H Q) : G E d fc (.code (.seq a b) :: td) s H Q := w.quiet rfl
theorem G.block {i : Nat} {b : Code} (w : G E d fc (.code b :: .inBlock i :: td) s H Q) : G E d fc (.code (.block i b) :: td) s H Q := w.quiet rfl
theorem G.loop {b : Code} (w : G E d fc (.code b :: .inLoop b :: td) s H Q) : G E d fc (.code (.loop b) :: td) s H Q := w.quiet rfl
theorem G.scope {b : Code} (w : G E d fc (.code b :: .inScope b :: td) s H Q) : G E d fc (.code (.scope b) :: td) s H Q := w.quiet rfl
theorem G.inBlock {i : Nat} (w : G E d fc td s H Q) : G E d fc (.inBlock i :: td) s H Q := w.quiet rfl
theorem G.inScope {b : Code} (w : G E d fc td s H Q) : G E d fc (.inScope b :: td) s H Q := w.quiet rfl
theorem G.inLoop {b : Code} (w : G E d fc (.code b :: .inLoop b :: td) s H Q) : G E d fc (.inLoop b :: td) s H Q := w.quiet rfl
theorem G.exit {i : Nat} {td' : List Item} (he : exitTo i td = some td') (w : G E d fc td' s H Q) : G E d fc (.code (.exit i) :: td) s H Q :=
  w.quiet (by show sJump (.exit i) (exitTo i td) = _; rw [he]; rfl)
theorem G.cond {x : Operand} {a b : Code} {t : Bool} (ht : opS s x = .bool t) (w : G E d fc (.code (cond t a b) :: td) s H Q) : G E d fc (.code (.cond x a b) :: td) s H Q := by
  refine W.of 0 (fun m n D _ _ _ tm h hv hh => ⟨n, tm, h, Nat.le_refl n, hv, hh, ?_⟩) w
  show condK a b td (loopF E (runFr E m d) fc n) tm [] h (operand tm x) = _
  rw [hv.operand, ht]
  cases t <;> rfl
theorem G.region {i : Nat} {ops : Array Oper} (w : GO E d fc td ops.toList ops.toList s H Q) : G E d fc (.code (.region i ops false) :: td) s H Q := by
  refine W.of 0 (fun m n D _ _ _ tm h hv hh => ⟨n, tm, h, Nat.le_refl n, hv, hh, rfl⟩) w
theorem GO.nil {ops : List Oper} (w : G E d fc td s H Q) : GO E d fc td ops [] s H Q :=
  W.of 0 (fun m n D _ _ _ tm h hv hh => ⟨n + 1, tm, h, Nat.le_succ n, hv, hh, rfl⟩) w

end

/-! what operations come to -/
section
variable (E : Env)
def loadS (t : TypeId) (H : Hp) (p : Nat × Nat) : Option AV :=
  match E.isAgg t, E.size t with
  | some g, some n => (H.rcells p.1).bind (load1 g n p.2)
  | _, _ => none
def resS (s : Store) (H : Hp) : ResultVar → Option AV
  | .tmp t => some (s t)
  | .cell a t => (ptrOf (s a)).bind (loadS E t H)
def resL (s : Store) (H : Hp) : List ResultVar → Option (List AV)
  | [] => some []
  | r :: rs => (resS E s H r).bind fun v => (resL s H rs).map (v :: ·)
end
section
variable {E : Env} {d : Nat} {fc : FC} {s : Store} {H : Hp} {Q : AV → Hp → Prop} {td : List Item}
theorem HpV.load {D : Nat} {h : Heap} (v : HpV D h H) (t : TypeId) (p : Nat × Nat) : loadA E t h p = loadS E t H p := by
  unfold loadA loadS; rw [v.rcells]; cases E.isAgg t <;> cases E.size t <;> rfl
theorem resultA_view {nt D : Nat} {tm : T AV} {h : Heap} (ht : TmV nt tm s) (hh : HpV D h H) (r : ResultVar) : resultA E tm h r = resS E s H r := by
  cases r with
  | tmp t => exact congrArg some (ht.get t)
  | cell a t =>
    show (ptrOf (tm.get undefA a)).bind (loadA E t h) = (ptrOf (s a)).bind (loadS E t H)
    rw [ht.get, funext (hh.load t)]
theorem resultsL_view {nt D : Nat} {tm : T AV} {h : Heap} (ht : TmV nt tm s) (hh : HpV D h H) : ∀ rs, resultsL E tm h rs = resL E s H rs
  | [] => rfl
  | r :: rs => by
    unfold resultsL resL
    rw [resultA_view ht hh, resultsL_view ht hh rs]
    cases resS E s H r <;> cases resL E s H rs <;> rfl

theorem G.leave {f : FuncId} {nt : Nat} {jump : Option Code} {fn : Func} {l : List AV} (hs : stepTodo td = sLeave jump) (hj : isRet jump = true) (hf : E.ft.get none f = some fn) (hr : resL E s H fn.results.toList = some l)
    (q : Q (oneOrTup l) H) : G E d ⟨f, nt, none⟩ td s H Q := by
  refine ⟨oneOrTup l, H, q, 1, fun m n D _ hn _ tm h ht hh => ⟨h, hh, ?_⟩⟩
  obtain ⟨n, rfl⟩ : ∃ k, n = k + 1 := ⟨n - 1, by omega⟩
  show stepTodo td E (runFr E m d) ⟨f, nt, none⟩ (loopF E (runFr E m d) ⟨f, nt, none⟩ n) tm [] h = _
  rw [hs]
  show (Bool.rec .bad (unwindA E (runFr E m d) f tm 64 [] h) (isRet jump) : Out) = _
  rw [hj]
  show resultsF E tm h (E.ft.get none f) = _
  rw [hf]
  show (match resultsL E tm h fn.results.toList with | some l => CT.ret (oneOrTup l, h) | none => .bad : Out) = _
  rw [resultsL_view ht hh, hr]
theorem G.ret {f : FuncId} {nt : Nat} {fn : Func} {l : List AV} (hf : E.ft.get none f = some fn) (hr : resL E s H fn.results.toList = some l) (q : Q (oneOrTup l) H) : G E d ⟨f, nt, none⟩ (.code .ret :: td) s H Q :=
  G.leave (jump := some .ret) rfl rfl hf hr q
theorem G.done {f : FuncId} {nt : Nat} {fn : Func} {l : List AV} (hf : E.ft.get none f = some fn) (hr : resL E s H fn.results.toList = some l) (q : Q (oneOrTup l) H) : G E d ⟨f, nt, none⟩ [] s H Q :=
  G.leave (jump := none) rfl rfl hf hr q

/-- the store of a call -/
def argS (args : List AV) : Store := fun k => (args[k]?).getD undefA
theorem sets_view : ∀ (l : List AV) (k nt : Nat) (tm : T AV) (s : Store), TmV nt tm s → k + l.length ≤ nt → TmV nt (T.sets l k tm) fun j => if j < k then s j else (l[j - k]?).getD (s j)
  | [], k, nt, tm, s, h, _ => by
    refine ⟨fun j => ?_, h.has⟩
    show tm.get undefA j = _
    rw [h.get]; split <;> rfl
  | x :: l, k, nt, tm, s, h, hk => by
    simp only [List.length_cons] at hk
    have := sets_view l (k + 1) nt (tm.set k x) (setS s k x) (h.set (by omega) x) (by omega)
    refine ⟨fun j => ?_, this.has⟩
    rw [show T.sets (x :: l) k tm = T.sets l (k + 1) (tm.set k x) from rfl, this.get]
    rcases Nat.lt_trichotomy j k with h1 | h1 | h1
    · rw [if_pos (by omega), if_pos h1]; exact if_neg (by omega)
    · subst h1; rw [if_pos (by omega), if_neg (by omega), Nat.sub_self]; exact if_pos rfl
    · rw [if_neg (by omega), if_neg (by omega), show j - k = (j - (k + 1)) + 1 by omega]
      simp only [List.getElem?_cons_succ]
      rw [show setS s k x j = s j from if_neg (by omega)]
theorem argS_view (args : List AV) (nt : Nat) (ha : args.length ≤ nt) (hn : nt ≤ 4096) : TmV nt (T.sets args 0 (.full undefA (depthOf nt))) (argS args) := by
  have := sets_view args 0 nt (.full undefA (depthOf nt)) (fun _ => undefA) ⟨fun k => T.get_full _ _ k, fun k hk => has_depth hn hk⟩ (by omega)
  refine ⟨fun j => ?_, this.has⟩
  rw [this.get]; rfl
/-- a call's body -/
theorem Fn.enter {f : FuncId} {args : List AV} {fn : Func} {c : Code} (hsum : E.sum f = none) (hfork : E.fork f = false) (hf : E.ft.get none f = some fn) (hc : fn.body = some c) (ha : args.length ≤ fn.ntmps) (hn : fn.ntmps ≤ 4096)
    (w : G E d ⟨f, fn.ntmps, none⟩ [.code c] (argS args) H Q) : Fn E (d + 1) f args H Q := by
  obtain ⟨v, H', q, N, hN⟩ := w
  refine ⟨v, H', q, N, fun m D hm hD h hh => ?_⟩
  obtain ⟨h', e1, e2⟩ := hN m m D hm hm hD _ h (argS_view args fn.ntmps ha hn) hh
  refine ⟨h', e1, ?_⟩
  unfold callA; rw [hsum]
  show callN E (runFr E m (d + 1)) f args h = _
  unfold callN; rw [hfork, hf]
  show enterF _ f args h fn.ntmps fn.body = _
  rw [hc]
  show (Bool.rec .bad _ (Nat.ble (len args) fn.ntmps && Nat.ble fn.ntmps 4096) : Out) = _
  rw [len_eq, Nat.ble_eq_true_of_le ha, Nat.ble_eq_true_of_le hn]
  exact e2
/-- a call that is told -/
theorem Fn.told {f : FuncId} {args : List AV} {S : List AV → Heap → Option (AV × Heap)} {v : AV} (hsum : E.sum f = some S) (hS : ∀ h, S args h = some (v, h)) (q : Q v H) : Fn E d f args H Q := by
  refine ⟨v, H, q, 0, fun m D _ _ h hh => ⟨h, hh, ?_⟩⟩
  unfold callA; rw [hsum]
  show Go.Ab.told (S args h) = _
  rw [hS]; rfl
end
end
end Go.Ab
end
section
namespace Go.Ab
set_option linter.unusedVariables false
noncomputable section

/-! the mirrors -/
section
variable (E : Env)
def storeS (t : TypeId) (H : Hp) (v : AV) (p : Nat × Nat) : Option Hp :=
  match E.size t, H.cells p.1 with
  | some n, some (c, e, o) => Bool.rec none ((splice v.cells p.2 c).map fun c' => H.put p.1 (.cells c' e o)) (sized v n && scalars v.cells)
  | _, _ => none
def fillSS (s : Store) (fs : List Field) : List (Nat × Operand) → List AV → Option (List AV)
  | [], cs => some cs
  | (i, x) :: rest, cs =>
    match nth fs i with
    | some f => Bool.rec none ((splice (opS s x).cells f.offset cs).bind (fillSS s fs rest)) (match E.size f.type with | some z => sized (opS s x) z | none => false)
    | none => none
def fillES (z : Nat) (s : Store) : List (Nat × Operand) → List AV → Option (List AV)
  | [], cs => some cs
  | (i, x) :: rest, cs => Bool.rec none ((splice (opS s x).cells (Nat.mul i z) cs).bind (fillES z s rest)) (sized (opS s x) z)
def buildS (s : Store) (t : TypeId) (parts : List (Nat × Operand)) : Option AV :=
  match E.zero t, E.under t with
  | some z, some (.struct fs) => Bool.rec none ((fillSS E s fs.toList parts z.cells).map .agg) (sizesKnown E fs.toList)
  | some z, some (.array _ e) => (match E.size e with | some n => (fillES n s parts z.cells).map .agg | none => none)
  | _, _ => none
def buildSliceS (s : Store) (t : TypeId) (n : Nat) (parts : List (Nat × Operand)) : Option (AObj × (Nat → AV)) :=
  match E.elem t with
  | some e =>
    match E.size e, E.zero e with
    | some z, some y => Bool.rec none ((fillES z s parts (rep y.cells n)).map fun cs => (.cells cs e false, sliceTo n n 0)) (sized y z && Nat.ble (Nat.mul n z) 16777216)
    | _, _ => none
  | none => none
def isMap : TypeDesc → Bool
  | .map _ _ => true
  | _ => false
def boxS (v : AV) : Option (List AV) :=
  match v with
  | .junk => none
  | v => some v.cells
def fieldAddrS (t : TypeId) (x : AV) (f : Nat) : Option AV :=
  match ptrOf x, (E.fields t).bind fun fs => nth fs f with
  | some (b, off), some fd => (match E.size fd.type with | some (_ + 1) => some (.ptr b (Nat.add off fd.offset)) | _ => none)
  | _, _ => none
def entriesS (H : Hp) : AV → Option (List (AV × AV))
  | .nilMap => some []
  | .map r => (H.mapAt r).map (·.1)
  | _ => none
def lookupS (t : TypeId) (x k : AV) (ok : Bool) (H : Hp) : Option AV :=
  match E.mapT t with
  | some (kt, e) =>
    match entriesS H x, E.zero e with
    | some es, some z => Bool.rec none (lookupZ es z k ok) (keyOk E kt k)
    | _, _ => none
  | none => none
def updateMS (r : Nat) (k v : AV) (H : Hp) : Option Hp :=
  match H.mapAt r with
  | some (es, m) =>
    match lookupE k es with
    | some (some _) => some (H.put r (.map (updateE k v es) m))
    | some none => some (H.put r (.map (es ++ [(k, v)]) (Nat.succ m)))
    | none => none
  | none => none
def updateS (t : TypeId) (x k v : AV) (H : Hp) : Option Hp :=
  match x, E.mapT t with
  | .map r, some (kt, _) => bif keyOk E kt k then updateMS r k v H else none
  | _, _ => none
def deleteMS (r : Nat) (k : AV) (H : Hp) : Option Hp :=
  match H.mapAt r with
  | some (es, mo) =>
    match lookupE k es with
    | some (some _) => some (H.put r (.map (removeE k es) (Nat.succ mo)))
    | some none => some H
    | none => none
  | none => none
def deleteS (t : TypeId) (m k : AV) (H : Hp) : Option Hp :=
  match m, E.mapT t with
  | .map r, some (kt, _) => bif keyOk E kt k then deleteMS r k H else none
  | _, _ => none
def firstS (size n : Nat) (H : Hp) : AV → Option (List AV)
  | .nilSlice => some []
  | .empty => Bool.rec none (some []) (Nat.beq n 0)
  | .slice b off _ _ _ => (H.cells b).bind fun c => cut c.1 off (Nat.mul n size)
  | _ => none
def newCellsS (e : TypeId) (size : Nat) (zeros : Bool) (x : AV) (H : Hp) : Option (Nat × List AV) :=
  Bool.rec ((lenOfA x).bind fun n => (firstS size n H x).map fun l => (n, l))
    (match asN x, E.zero e with | some n, some z => Bool.rec none (some (n, rep z.cells n)) (sized z size) | _, _ => none) zeros
def appendInS (b off ln n cap op size : Nat) (new : List AV) (H : Hp) : Option (AV × Hp) :=
  match n with
  | 0 => some (.slice b off ln cap op, H)
  | n + 1 =>
    match H.cells b with
    | some (c, e, o) => match splice new (Nat.add off (Nat.mul ln size)) c with
      | some c' => bif scalars new then some (.slice b off (Nat.add ln (n + 1)) cap op, H.put b (.cells c' e o)) else none
      | none => none
    | none => none
def appendNewS (c : List AV) (eb : TypeId) (b ln n off op size e id : Nat) (new : List AV) (H : Hp) : Option (AV × Hp) :=
  match cut c off (Nat.mul ln size) with
  | some old => bif Nat.beq op 0 || (Nat.beq eb e && scalars new) then
      some (.slice id 0 (Nat.add ln n) (Nat.add ln n) (Nat.succ size), bif Nat.beq op 0 then H.put id (.cells (old ++ new) e true) else (H.put id (.cells (old ++ new) e true)).drop b) else none
  | none => none
def appendToS (s : AV) (size e id : Nat) (H : Hp) (n : Nat) (new : List AV) : Option (AV × Hp) :=
  match s with
  | .nilSlice => (match n with
    | 0 => some (.nilSlice, H)
    | n + 1 => some (.slice id 0 (n + 1) (n + 1) (Nat.succ size), H.put id (.cells new e true)))
  | .slice b off ln cap op => bif Nat.ble (Nat.add ln n) cap then appendInS b off ln n cap op size new H else
      match H.cells b with
      | some (c, eb, _) => appendNewS c eb b ln n off op size e id new H
      | none => none
  | _ => none
def appendS (t : TypeId) (xt : Option TypeId) (s x : AV) (id : Nat) (H : Hp) : Option (AV × Hp) :=
  match E.elem t with
  | some e =>
    match E.tt.get none e, E.isNum xt with
    | some ti, some z =>
      match newCellsS E e ti.size z x H with
      | some (n, new) => bif bears (Nat.add (lenSl s) n) ti.bytes && zeroOk E e ti.size then appendToS s ti.size e id H n new else none
      | none => none
    | _, _ => none
  | none => none
end

section
variable {E : Env} {s : Store} {H : Hp} {nt D : Nat} {tm : T AV} {h : Heap}
theorem fillSS_eq (ht : TmV nt tm s) (fs : List Field) : ∀ ps cs, fillS E tm fs ps cs = fillSS E s fs ps cs
  | [], cs => rfl
  | (i, x) :: rest, cs => by
    unfold fillS fillSS
    rw [ht.operand, funext (fillSS_eq ht fs rest)]
    exact rfl
theorem fillES_eq (ht : TmV nt tm s) (z : Nat) : ∀ ps cs, fillE z tm ps cs = fillES z s ps cs
  | [], cs => rfl
  | (i, x) :: rest, cs => by
    unfold fillE fillES
    rw [ht.operand, funext (fillES_eq ht z rest)]
theorem buildS_eq (ht : TmV nt tm s) (t : TypeId) (ps : Array (Nat × Operand)) : pBuild t ps E tm = buildS E s t ps.toList := by
  unfold pBuild buildS
  simp only [fillSS_eq ht, fillES_eq ht]
  exact rfl
theorem buildSliceS_eq (ht : TmV nt tm s) (t : TypeId) (n : Nat) (ps : Array (Nat × Operand)) : aBuildSlice t n ps E tm = buildSliceS E s t n ps.toList := by
  unfold aBuildSlice buildSliceS
  simp only [fillES_eq ht]
  exact rfl
theorem lookupS_eq (hh : HpV D h H) (t : TypeId) (x k : AV) (ok : Bool) : lookupA E t x k ok h = lookupS E t x k ok H := by
  have he : entriesOf h x = entriesS H x := by cases x <;> first | rfl | (show (h.mapAt _).map _ = (H.mapAt _).map _; rw [hh.mapAt])
  unfold lookupA lookupS
  rw [he]
  exact rfl

/-- what changes a heap -/
def Tells (F : Heap → R) (H : Hp) (x : Option (AV × Hp)) : Prop :=
  ∀ v H', x = some (v, H') → ∃ N, ∀ D, N ≤ D → ∀ h, HpV D h H → ∃ h', HpV D h' H' ∧ F h = .ret (.val v, h')
theorem Tells.put {b : Nat} {o : AObj} {v : AV} : Tells (fun h => val v (h.put b o)) H (some (v, H.put b o)) := by
  intro v' H' e
  cases e
  exact ⟨b + 1, fun D hD h hh => ⟨_, hh.put (by omega) o, rfl⟩⟩
theorem Tells.same {v : AV} : Tells (fun h => val v h) H (some (v, H)) := by
  intro v' H' e
  cases e
  exact ⟨0, fun D hD h hh => ⟨_, hh, rfl⟩⟩
theorem Tells.none {F : Heap → R} : Tells F H none := fun v H' e => by cases e
theorem Tells.congr {F F' : Heap → R} {x : Option (AV × Hp)} (t : Tells F H x) (e : ∀ D h, HpV D h H → F' h = F h) : Tells F' H x := by
  intro v H' hx
  obtain ⟨N, hN⟩ := t v H' hx
  refine ⟨N, fun D hD h hh => ?_⟩
  rw [e D h hh]
  exact hN D hD h hh
theorem storeS_ok (t : TypeId) (v : AV) (p : Nat × Nat) : Tells (fun h => match storeA E t h v p with | some h' => val undefA h' | none => .bad) H ((storeS E t H v p).map fun H' => (undefA, H')) := by
  have : ∀ D h, HpV D h H → storeA E t h v p = match E.size t, H.cells p.1 with
    | some n, some (c, e, o) => Bool.rec none ((splice v.cells p.2 c).map fun c' => h.put p.1 (.cells c' e o)) (sized v n && scalars v.cells)
    | _, _ => none := by intro D h hh; unfold storeA; rw [hh.cells]; exact rfl
  refine Tells.congr (F := fun h => match (match E.size t, H.cells p.1 with
    | some n, some (c, e, o) => (Bool.rec none ((splice v.cells p.2 c).map fun c' => h.put p.1 (.cells c' e o)) (sized v n && scalars v.cells) : Option Heap)
    | _, _ => none) with | some h' => val undefA h' | none => .bad) ?_ fun D h hh => by show (match storeA E t h v p with | some h' => val undefA h' | none => .bad) = _; rw [this D h hh]
  unfold storeS
  cases E.size t with
  | none => exact Tells.none
  | some n =>
    cases H.cells p.1 with
    | none => exact Tells.none
    | some c =>
      obtain ⟨c, e, o⟩ := c
      simp only []
      cases (sized v n && scalars v.cells) with
      | false => exact Tells.none
      | true =>
        simp only []
        cases splice v.cells p.2 c with
        | none => exact Tells.none
        | some c' => exact Tells.put
theorem updateS_ok (t : TypeId) (x k v : AV) : Tells (updateA E t x k v) H ((updateS E t x k v H).map fun H' => (undefA, H')) := by
  unfold updateS
  cases x <;> try exact Tells.none
  rename_i r
  cases hm : E.mapT t with
  | none => exact Tells.none
  | some p =>
    obtain ⟨kt, e⟩ := p
    simp only []
    cases hk : keyOk E kt k with
    | false => exact Tells.none
    | true =>
      have h0 : ∀ h, updateA E t (.map r) k v h = updateM r k v h := by intro h; unfold updateA; simp only [hm, hk]
      simp only [cond_true]
      refine Tells.congr (F := updateM r k v) ?_ fun D h hh => h0 h
      unfold updateMS
      cases hr : H.mapAt r with
      | none => exact Tells.none
      | some q =>
        obtain ⟨es, m⟩ := q
        simp only []
        cases hl : lookupE k es with
        | none => exact Tells.none
        | some w =>
          cases w with
          | none =>
            refine Tells.congr Tells.put fun D h hh => ?_
            unfold updateM; rw [hh.mapAt, hr]; simp only [hl]
          | some w =>
            refine Tells.congr Tells.put fun D h hh => ?_
            unfold updateM; rw [hh.mapAt, hr]; simp only [hl]
theorem deleteS_ok (t : TypeId) (x k : AV) : Tells (deleteA E t x k) H ((deleteS E t x k H).map fun H' => (undefA, H')) := by
  unfold deleteS
  cases x <;> try exact Tells.none
  rename_i r
  cases hm : E.mapT t with
  | none => exact Tells.none
  | some p =>
    obtain ⟨kt, e⟩ := p
    simp only []
    cases hk : keyOk E kt k with
    | false => exact Tells.none
    | true =>
      have h0 : ∀ h, deleteA E t (.map r) k h = deleteM r k h := by intro h; unfold deleteA; simp only [hm, hk]
      simp only [cond_true]
      refine Tells.congr (F := deleteM r k) ?_ fun D h hh => h0 h
      unfold deleteMS
      cases hr : H.mapAt r with
      | none => exact Tells.none
      | some q =>
        obtain ⟨es, m⟩ := q
        simp only []
        cases hl : lookupE k es with
        | none => exact Tells.none
        | some w =>
          cases w with
          | none =>
            refine Tells.congr Tells.same fun D h hh => ?_
            unfold deleteM; rw [hh.mapAt, hr]; simp only [hl]
          | some w =>
            refine Tells.congr Tells.put fun D h hh => ?_
            unfold deleteM; rw [hh.mapAt, hr]; simp only [hl]
end
end
end Go.Ab
end
section
namespace Go.Ab
set_option linter.unusedVariables false
noncomputable section

section
variable {E : Env} {s : Store} {H : Hp} {nt D : Nat} {tm : T AV} {h : Heap}
theorem Tells.bool {F0 F1 : Heap → R} {x0 x1 : Option (AV × Hp)} {b : Bool} (t0 : b = false → Tells F0 H x0) (t1 : b = true → Tells F1 H x1) : Tells (fun h => Bool.rec (F0 h) (F1 h) b) H (cond b x1 x0) := by
  cases b
  · exact t0 rfl
  · exact t1 rfl
theorem appendInS_ok (b off ln n cap op size : Nat) (new : List AV) : Tells (appendIn b off ln n cap op size new) H (appendInS b off ln n cap op size new H) := by
  cases n with
  | zero => exact Tells.same
  | succ n =>
    refine Tells.congr (F := fun h => match H.cells b with
      | some (c, e, o) => match splice new (Nat.add off (Nat.mul ln size)) c with
        | some c' => Bool.rec .bad (val (.slice b off (Nat.add ln (n + 1)) cap op) (h.put b (.cells c' e o))) (scalars new)
        | none => .bad
      | none => .bad) ?_ fun D h hh => by unfold appendIn; rw [hh.cells]; exact rfl
    unfold appendInS
    cases H.cells b with
    | none => exact Tells.none
    | some c =>
      obtain ⟨c, e, o⟩ := c
      simp only []
      cases splice new (Nat.add off (Nat.mul ln size)) c with
      | none => exact Tells.none
      | some c' => exact Tells.bool (fun _ => Tells.none) fun _ => Tells.put
theorem appendNewS_ok (o : Bool) (c : List AV) (eb : TypeId) (b ln n off op size e id : Nat) (new : List AV) : Tells (appendNew o c eb b ln n off op size e id new) H (appendNewS c eb b ln n off op size e id new H) := by
  unfold appendNewS
  cases hc : cut c off (Nat.mul ln size) with
  | none => exact Tells.none
  | some old =>
    refine Tells.congr (F := fun h => Bool.rec .bad (val (.slice id 0 (Nat.add ln n) (Nat.add ln n) (Nat.succ size)) (Bool.rec ((h.put id (.cells (old ++ new) e true)).drop b) (h.put id (.cells (old ++ new) e true)) (Nat.beq op 0))) (Nat.beq op 0 || (Nat.beq eb e && scalars new)))
      ?_ fun D h hh => by unfold appendNew; rw [hc]
    refine Tells.bool (fun _ => Tells.none) fun _ => ?_
    cases Nat.beq op 0 with
    | true => exact Tells.put
    | false =>
      intro v' H' e
      cases e
      exact ⟨id + 1, fun D hD h hh => ⟨_, (hh.put (by omega) _).drop b, rfl⟩⟩
theorem appendToS_ok (x : AV) (size e id n : Nat) (new : List AV) : Tells (fun h => appendTo x size e id h n new) H (appendToS x size e id H n new) := by
  cases x <;> try exact Tells.none
  · rename_i b off ln cap op
    unfold appendToS
    refine Tells.bool (F0 := appendOut b off ln n op size e id new) (F1 := appendIn b off ln n cap op size new) (fun _ => ?_) fun _ => appendInS_ok b off ln n cap op size new
    cases hb : H.cells b with
    | none => exact Tells.none
    | some c =>
      obtain ⟨c, eb, o⟩ := c
      exact Tells.congr (appendNewS_ok o c eb b ln n off op size e id new) fun D h hh => by unfold appendOut; rw [hh.cells, hb]
  · cases n with
    | zero => exact Tells.same
    | succ n => exact Tells.put
theorem firstS_ok {size n : Nat} {x : AV} {l : List AV} (hf : firstS size n H x = some l) (hh : HpV D h H) : firstA size n h x = some l := by
  cases x <;> try cases hf
  · show (h.cells _).bind _ = _; rw [hh.cells]; exact hf
  · rfl
  · exact hf
theorem newCellsS_ok {e : TypeId} {size : Nat} {z : Bool} {x : AV} {p : Nat × List AV} (hf : newCellsS E e size z x H = some p) (hh : HpV D h H) : newCells E e size z x h = some p := by
  cases z with
  | true => exact hf
  | false =>
    unfold newCells
    simp only []
    unfold newCellsS at hf
    simp only [] at hf
    cases hl : lenOfA x with
    | none => rw [hl] at hf; cases hf
    | some n =>
      rw [hl] at hf
      simp only [Option.bind_some] at hf ⊢
      cases hq : firstS size n H x with
      | none => rw [hq] at hf; cases hf
      | some l => rw [hq] at hf; rw [firstS_ok hq hh]; exact hf
theorem appendS_ok (t : TypeId) (xt : Option TypeId) (x y : AV) (id : Nat) : Tells (appendA E t xt x y id) H (appendS E t xt x y id H) := by
  unfold appendS
  cases he : E.elem t with
  | none => exact Tells.none
  | some e =>
    simp only []
    cases hti : E.tt.get none e with
    | none => exact Tells.none
    | some ti =>
      cases hz : E.isNum xt with
      | none => exact Tells.none
      | some z =>
        simp only []
        cases hn : newCellsS E e ti.size z y H with
        | none => exact Tells.none
        | some p =>
          obtain ⟨n, new⟩ := p
          refine Tells.congr (F := fun h => Bool.rec .bad (appendTo x ti.size e id h n new) (bears (Nat.add (lenSl x) n) ti.bytes && zeroOk E e ti.size)) ?_ fun D h hh => ?_
          · exact Tells.bool (fun _ => Tells.none) fun _ => appendToS_ok x ti.size e id n new
          · unfold appendA
            rw [he]; simp only []
            rw [hti, hz]
            show appendE E e z x y id h ti = _
            unfold appendE
            rw [newCellsS_ok hn hh]
end

/-! what a region comes to -/
structure SOp where
  dst : Option Nat
  op : Op
  g : Option (Nat × Bool)
def sop (o : Oper) : SOp := ⟨o.dst, o.op, o.guard⟩

def wpV (x : Option AV) (K : AV → Prop) : Prop := match x with | some v => K v | none => False
theorem wpV_some (v : AV) (K : AV → Prop) : wpV (some v) K = K v := rfl
theorem wpV_congr {x y : Option AV} (K : AV → Prop) (h : x = y) : wpV x K = wpV y K := by rw [h]
def wpH (x : Option (AV × Hp)) (K : AV → Hp → Prop) : Prop := match x with | some (v, H) => K v H | none => False
theorem wpH_some (v : AV) (H : Hp) (K : AV → Hp → Prop) : wpH (some (v, H)) K = K v H := rfl
theorem wpH_congr {x y : Option (AV × Hp)} (K : AV → Hp → Prop) (h : x = y) : wpH x K = wpH y K := by rw [h]
def wpB (b : Option Bool) (y n : Prop) : Prop := match b with | some true => y | some false => n | none => False
theorem wpB_true (y n : Prop) : wpB (some true) y n = y := rfl
theorem wpB_false (y n : Prop) : wpB (some false) y n = n := rfl
theorem wpB_congr {b c : Option Bool} (y n : Prop) (h : b = c) : wpB b y n = wpB c y n := by rw [h]
def wpPut (nt : Nat) (dst : Option Nat) (v : AV) (K : Store → Prop) (s : Store) : Prop :=
  match dst with | none => K s | some k => k < nt ∧ K (setS s k v)

def wantS (all : List SOp) (s : Store) : Option (Nat × Bool) → Option Bool
  | none => some true
  | some (j, want) => match (nth all j).bind (·.dst) with
    | some k => isWanted want (s k)
    | none => some false

def lenS (E : Env) (t : TypeId) (x : AV) : Option AV :=
  match E.under t with
  | some (.map _ _) => none
  | some d => lenV x d
  | none => none
def funcOf : AV → Option (FuncId × List AV × List AV)
  | .func f a b => some (f, a, b)
  | _ => none

section
variable (E : Env) (d : Nat)
def evCall (f : AV) (args : List AV) (H : Hp) (K : AV → Hp → Prop) : Prop :=
  match f with
  | .func f first captured => Fn E d f (first ++ args ++ captured) H.skip K
  | _ => False
def evBuiltin (b : Builtin) (ts : List TypeId) (l : List AV) (H : Hp) (K : AV → Hp → Prop) : Prop :=
  match b, ts, l with
  | .len, t :: _, [x] => wpV (lenS E t x) fun v => K v H
  | .cap, t :: _, [x] => wpV ((E.under t).bind (capV x)) fun v => K v H
  | .append, t :: ts, [x, y] => wpH (appendS E t ts.head? x y H.next H.skip) K
  | .delete, t :: _, [x, y] => wpH ((deleteS E t x y H.skip).map fun H' => (undefA, H')) K
  | _, _, _ => False
def alS (x : Option (AObj × (Nat → AV))) (H : Hp) (K : AV → Hp → Prop) : Prop :=
  match x with
  | some (o, g) => K (g H.next) (H.new o)
  | none => False
theorem alS_some (o : AObj) (g : Nat → AV) (H : Hp) (K : AV → Hp → Prop) : alS (some (o, g)) H K = K (g H.next) (H.new o) := rfl
def evO (o : Op) (s : Store) (H : Hp) (K : AV → Hp → Prop) : Prop :=
  match o with
  | .move x => K (opS s x) H
  | .assign x => K (opS s x) H
  | .pick c a b => wpV (pick1 (opS s c) (opS s a) (opS s b)) fun v => K v H
  | .alloc e => alS ((E.zero e).map fun z => (.cells z.cells e false, ptrTo)) H K
  | .box e x => alS (boxed e (opS s x)) H K
  | .build t ps => wpV (buildS E s t ps.toList) fun v => K v H
  | .buildSlice t n ps => alS (buildSliceS E s t n ps.toList) H K
  | .load t a => wpV ((ptrOf (opS s a)).bind (loadS E t H)) fun v => K v H
  | .store t a x => wpH (((ptrOf (opS s a)).bind (storeS E t H.skip (opS s x))).map fun H' => (undefA, H')) K
  | .nilCheck x => wpV (notNil (opS s x)) fun v => K v H
  | .binOp op t x y _ => wpV (binA E t (constO x || constO y) op (opS s x) (opS s y)) fun v => K v H
  | .unOp op _ x => wpV (unA op (opS s x)) fun v => K v H
  | .makeFunc (.func f) a b => K (.func f (a.toList.map (opS s)) (b.toList.map (opS s))) H
  | .makeMap t none => alS (bif ((E.under t).map isMap).getD false then some (.map [] 0, .map) else none) H K
  | .slice t x lo hi mx => wpV (sliceA E t (opS s x) (lo.map (opS s)) (hi.map (opS s)) (mx.map (opS s))) fun v => K v H
  | .fieldAddr t x f => wpV (fieldAddrS E t (opS s x) f) fun v => K v H
  | .indexAddr t x i => wpV (indexAddrA E t (opS s x) (opS s i)) fun v => K v H
  | .index t x i => wpV (indexVA E t (opS s x) (opS s i)) fun v => K v H
  | .lookup t x i ok => wpV (lookupS E t (opS s x) (opS s i) ok H) fun v => K v H
  | .mapUpdate t m k v => wpH ((updateS E t (opS s m) (opS s k) (opS s v) H.skip).map fun H' => (undefA, H')) K
  | .extract x i => wpV ((tupOf (opS s x)).bind fun l => nth l i) fun v => K v H
  | .call c => match c.callee with
    | .builtin b => evBuiltin E b c.argTypes.toList (c.args.toList.map (opS s)) H K
    | .value f => evCall E d (opS s f) (c.args.toList.map (opS s)) H K
    | .invoke .. => False
  | _ => False
def wpO (nt : Nat) (all : List SOp) : List SOp → (Store → Hp → Prop) → Store → Hp → Prop
  | [], K, s, H => K s H
  | o :: r, K, s, H => wpB (wantS all s o.g) (evO E d o.op s H fun v H' => wpPut nt o.dst v (fun s' => wpO nt all r K s' H') s) (wpPut nt o.dst undefA (fun s' => wpO nt all r K s' H) s)
end
end
end Go.Ab
end
