/- A region's run is what it comes to. Regions that draw their order, over stores and heaps that are functions. The search, plainly. Conditions: none. -/
import Derived.Test.YtbclmkfibgmgdaaGreatDoorRdSA
section
namespace Go.Ab
set_option linter.unusedVariables false
noncomputable section

theorem W.via {nt nt' : Nat} {K K' : Nat → Nat → T AV → Heap → Out} {s s' : Store} {H H' : Hp} {Q : AV → Hp → Prop} (N0 : Nat)
    (hs : ∀ m n D, N0 ≤ m → N0 ≤ n → N0 ≤ D → ∀ tm h, TmV nt tm s → HpV D h H → ∃ tm' h', TmV nt' tm' s' ∧ HpV D h' H' ∧ K m n tm h = K' m n tm' h') (w : W nt' K' s' H' Q) : W nt K s H Q := by
  obtain ⟨v, H2, q, N, hN⟩ := w
  refine ⟨v, H2, q, N + N0, fun m n D hm hn hD tm h ht hh => ?_⟩
  obtain ⟨tm', h', e2, e3, e4⟩ := hs m n D (by omega) (by omega) (by omega) tm h ht hh
  rw [e4]
  exact hN m n D (by omega) (by omega) (by omega) tm' h' e2 e3

section
variable {E : Env} {d : Nat} {fc : FC} {s : Store} {H : Hp} {Q : AV → Hp → Prop} {td : List Item} {K : Nat → Nat → KO} {dst : Option Nat}

theorem wput_ok {nt : Nat} {v : AV} (w : wpPut nt dst v (fun s' => W nt (fun m n tm h => K m n tm [] h) s' H Q) s) : W nt (fun m n tm h => putK nt dst (K m n) tm [] v h) s H Q := by
  cases dst with
  | none => exact w
  | some k =>
    obtain ⟨hk, w⟩ := w
    refine W.via 0 (fun m n D _ _ _ tm h ht hh => ⟨tm.set k v, h, ht.set hk v, hh, ?_⟩) w
    show (Bool.rec .bad (K m n (tm.set k v) [] h) (Nat.blt k nt) : Out) = _
    rw [show Nat.blt k nt = true from Nat.ble_eq_true_of_le hk]

theorem wpv_step {o : Op} {f : PF} {v : AV} (hd : doOp o E = .pv f) (hf : ∀ tm, TmV fc.nt tm s → f E tm = some v) (w : wpPut fc.nt dst v (fun s' => W fc.nt (fun m n tm h => K m n tm [] h) s' H Q) s) :
    W fc.nt (fun m n tm h => stepDO (doOp o E) E (runFr E m d) fc dst (K m n) tm [] h) s H Q := by
  refine W.via 0 (fun m n D _ _ _ tm h ht hh => ⟨tm, h, ht, hh, ?_⟩) (wput_ok w)
  rw [hd]
  show putO fc.nt dst (K m n) tm [] h (f E tm) = _
  rw [hf tm ht]; rfl
theorem wrd_step {o : Op} {x : Operand} {f : RF} {v : AV} (hd : doOp o E = .rd x f) (hf : ∀ D tm h, TmV fc.nt tm s → HpV D h H → f E tm h = some v) (w : wpPut fc.nt dst v (fun s' => W fc.nt (fun m n tm h => K m n tm [] h) s' H Q) s) :
    W fc.nt (fun m n tm h => stepDO (doOp o E) E (runFr E m d) fc dst (K m n) tm [] h) s H Q := by
  refine W.via 0 (fun m n D _ _ _ tm h ht hh => ⟨tm, h, ht, hh, ?_⟩) (wput_ok w)
  rw [hd]
  show putO fc.nt dst (K m n) tm [] h (f E tm h) = _
  rw [hf D tm h ht hh]; rfl
theorem wal_step {o : Op} {f : AF} {b : AObj} {g : Nat → AV} (hd : doOp o E = .al f) (hf : ∀ tm, TmV fc.nt tm s → f E tm = some (b, g)) (w : wpPut fc.nt dst (g H.next) (fun s' => W fc.nt (fun m n tm h => K m n tm [] h) s' (H.new b) Q) s) :
    W fc.nt (fun m n tm h => stepDO (doOp o E) E (runFr E m d) fc dst (K m n) tm [] h) s H Q := by
  refine W.via (H.next + 1) (fun m n D _ _ hD tm h ht hh => ?_) (wput_ok w)
  obtain ⟨t, nx, l⟩ := h
  refine ⟨tm, ⟨t.set nx (some b), Nat.succ nx, nx :: l⟩, ht, hh.new (by omega) b, ?_⟩
  rw [hd]
  show (match f E tm, (⟨t, nx, l⟩ : Heap) with
    | some (o, g), ⟨t, n', l⟩ => putK fc.nt dst (K m n) tm [] (g n') ⟨t.set n' (some o), Nat.succ n', n' :: l⟩
    | none, _ => .bad : Out) = _
  rw [hf tm ht]
  show putK fc.nt dst (K m n) tm [] (g nx) _ = _
  rw [hh.next_mk]
theorem wfull_step {o : Op} {f : XF} {F : Heap → R} {x : Option (AV × Hp)} (hd : doOp o E = .full f) (hf : ∀ tm, TmV fc.nt tm s → f E tm H.next = F) (hF : Tells F H.skip x)
    (w : wpH x fun v H' => wpPut fc.nt dst v (fun s' => W fc.nt (fun m n tm h => K m n tm [] h) s' H' Q) s) : W fc.nt (fun m n tm h => stepDO (doOp o E) E (runFr E m d) fc dst (K m n) tm [] h) s H Q := by
  cases hx : x with
  | none => rw [hx] at w; exact w.elim
  | some p =>
    obtain ⟨v, H'⟩ := p
    rw [hx] at w
    have w : wpPut fc.nt dst v (fun s' => W fc.nt (fun m n tm h => K m n tm [] h) s' H' Q) s := w
    obtain ⟨N, hN⟩ := hF v H' hx
    refine W.via N (fun m n D _ _ hD tm h ht hh => ?_) (wput_ok w)
    obtain ⟨t, nx, l⟩ := h
    obtain ⟨h', e1, e2⟩ := hN D hD ⟨t, Nat.succ nx, l⟩ hh.skip
    refine ⟨tm, h', ht, e1, ?_⟩
    rw [hd]
    show (f E tm nx ⟨t, Nat.succ nx, l⟩).bind (followA E (runFr E m d) (putK fc.nt dst (K m n) tm []) (deferK fc dst (K m n) tm [])) = _
    rw [hh.next_mk, hf tm ht]
    rw [hh.next_mk] at e2
    rw [e2]; rfl
theorem wcall_step {o : Op} {f : XF} {g : FuncId} {args : List AV} (hd : doOp o E = .full f) (hf : ∀ tm, TmV fc.nt tm s → ∀ n h, f E tm n h = .ret (.enter g args, h))
    (w : Fn E d g args H.skip fun v H' => wpPut fc.nt dst v (fun s' => W fc.nt (fun m n tm h => K m n tm [] h) s' H' Q) s) : W fc.nt (fun m n tm h => stepDO (doOp o E) E (runFr E m d) fc dst (K m n) tm [] h) s H Q := by
  obtain ⟨v, H', w, N, hN⟩ := w
  refine W.via N (fun m n D hm _ hD tm h ht hh => ?_) (wput_ok w)
  obtain ⟨t, nx, l⟩ := h
  obtain ⟨h', e1, e2⟩ := hN m D hm hD ⟨t, Nat.succ nx, l⟩ hh.skip
  refine ⟨tm, h', ht, e1, ?_⟩
  rw [hd]
  show (f E tm nx ⟨t, Nat.succ nx, l⟩).bind (followA E (runFr E m d) (putK fc.nt dst (K m n) tm []) (deferK fc dst (K m n) tm [])) = _
  rw [hf tm ht]
  show (callA E (runFr E m d) g args ⟨t, Nat.succ nx, l⟩).andThen (putK fc.nt dst (K m n) tm []) = _
  rw [e2]; rfl

theorem wpV_elim {x : Option AV} {L : AV → Prop} (w : wpV x L) : ∃ v, x = some v ∧ L v := by
  cases x with
  | none => exact w.elim
  | some v => exact ⟨v, rfl, w⟩
theorem alS_elim {x : Option (AObj × (Nat → AV))} {L : AV → Hp → Prop} (w : alS x H L) : ∃ o g, x = some (o, g) ∧ L (g H.next) (H.new o) := by
  cases x with
  | none => exact w.elim
  | some p => exact ⟨p.1, p.2, rfl, w⟩
theorem wpV_mono {x : Option AV} {L L' : AV → Prop} (w : wpV x L) (h : ∀ v, L v → L' v) : wpV x L' := by
  cases x with
  | none => exact w.elim
  | some v => exact h v w
theorem wpH_mono {x : Option (AV × Hp)} {L L' : AV → Hp → Prop} (w : wpH x L) (h : ∀ v H', L v H' → L' v H') : wpH x L' := by
  cases x with
  | none => exact w.elim
  | some v => exact h _ _ w
theorem alS_mono {x : Option (AObj × (Nat → AV))} {L L' : AV → Hp → Prop} (w : alS x H L) (h : ∀ v H', L v H' → L' v H') : alS x H L' := by
  cases x with
  | none => exact w.elim
  | some v => exact h _ _ w
theorem evO_mono {o : Op} {L L' : AV → Hp → Prop} (w : evO E d o s H L) (h : ∀ v H', L v H' → L' v H') : evO E d o s H L' := by
  cases o <;> first
    | exact h _ _ w
    | exact wpV_mono w fun v => h v H
    | exact alS_mono w h
    | exact wpH_mono w h
    | exact w.elim
    | skip
  · rename_i fn a b
    cases fn <;> first | exact h _ _ w | exact w.elim
  · rename_i t r
    cases r <;> first | exact alS_mono w h | exact w.elim
  · rename_i c
    obtain ⟨callee, args, ts⟩ := c
    cases callee with
    | invoke => exact w.elim
    | value f =>
      replace w : evCall E d (opS s f) (args.toList.map (opS s)) H L := w
      show evCall E d (opS s f) (args.toList.map (opS s)) H L'
      cases hf : opS s f <;> rw [hf] at w <;> first | exact w.elim | exact Fn.mono w h
    | builtin b =>
      replace w : evBuiltin E b ts.toList (args.toList.map (opS s)) H L := w
      show evBuiltin E b ts.toList (args.toList.map (opS s)) H L'
      unfold evBuiltin at w ⊢
      split at w <;> first | exact wpV_mono w fun v => h v H | exact wpH_mono w h | exact w.elim
theorem optOperand_view {nt : Nat} {tm : T AV} (ht : TmV nt tm s) (x : Option Operand) : optOperand tm x = x.map (opS s) := by
  cases x with
  | none => rfl
  | some x => exact congrArg some (ht.operand x)

theorem evO_ok {o : Op} (w : evO E d o s H fun v H' => wpPut fc.nt dst v (fun s' => W fc.nt (fun m n tm h => K m n tm [] h) s' H' Q) s) : W fc.nt (fun m n tm h => stepDO (doOp o E) E (runFr E m d) fc dst (K m n) tm [] h) s H Q := by
  cases o with
  | move x => exact wpv_step (o := .move x) rfl (fun tm ht => congrArg some (ht.operand x)) w
  | assign x => exact wpv_step (o := .assign x) rfl (fun tm ht => congrArg some (ht.operand x)) w
  | pick c a b =>
    obtain ⟨v, hv, w⟩ := wpV_elim w
    exact wpv_step (o := .pick c a b) rfl (fun tm ht => by unfold pPick; rw [ht.operand, ht.operand, ht.operand]; exact hv) w
  | alloc e =>
    obtain ⟨b, g, hv, w⟩ := alS_elim (L := fun v H' => wpPut fc.nt dst v (fun s' => W fc.nt (fun m n tm h => K m n tm [] h) s' H' Q) s) w
    exact wal_step (o := .alloc e) rfl (fun tm ht => hv) w
  | box e x =>
    obtain ⟨b, g, hv, w⟩ := alS_elim (L := fun v H' => wpPut fc.nt dst v (fun s' => W fc.nt (fun m n tm h => K m n tm [] h) s' H' Q) s) w
    exact wal_step (o := .box e x) rfl (fun tm ht => by unfold aBox; rw [ht.operand]; exact hv) w
  | build t ps =>
    obtain ⟨v, hv, w⟩ := wpV_elim w
    exact wpv_step (o := .build t ps) rfl (fun tm ht => (buildS_eq ht t ps).trans hv) w
  | buildSlice t n ps =>
    obtain ⟨b, g, hv, w⟩ := alS_elim (L := fun v H' => wpPut fc.nt dst v (fun s' => W fc.nt (fun m n tm h => K m n tm [] h) s' H' Q) s) w
    exact wal_step (o := .buildSlice t n ps) rfl (fun tm ht => (buildSliceS_eq ht t n ps).trans hv) w
  | load t a =>
    obtain ⟨v, hv, w⟩ := wpV_elim w
    refine wrd_step (o := .load t a) rfl (fun D tm h ht hh => ?_) w
    show (ptrOf (operand tm a)).bind (loadA E t h) = _
    rw [ht.operand, funext (hh.load t)]; exact hv
  | store t a x =>
    cases hp : ptrOf (opS s a) with
    | none =>
      have w : wpH (((ptrOf (opS s a)).bind (storeS E t H.skip (opS s x))).map fun H' => (undefA, H')) _ := w
      rw [hp] at w; exact w.elim
    | some p =>
      have w : wpH (((ptrOf (opS s a)).bind (storeS E t H.skip (opS s x))).map fun H' => (undefA, H')) _ := w
      rw [hp] at w
      refine wfull_step (o := .store t a x) rfl (fun tm ht => ?_) (storeS_ok t (opS s x) p) w
      funext h
      show (match (ptrOf (operand tm a)).bind (storeA E t h (operand tm x)) with | some h' => val undefA h' | none => .bad : R) = _
      rw [ht.operand, ht.operand, hp]; rfl
  | nilCheck x =>
    obtain ⟨v, hv, w⟩ := wpV_elim w
    exact wpv_step (o := .nilCheck x) rfl (fun tm ht => by unfold pNilCheck; rw [ht.operand]; exact hv) w
  | binOp op t x y ty =>
    obtain ⟨v, hv, w⟩ := wpV_elim w
    exact wpv_step (o := .binOp op t x y ty) rfl (fun tm ht => by unfold pBin; rw [ht.operand, ht.operand]; exact hv) w
  | unOp op ty x =>
    obtain ⟨v, hv, w⟩ := wpV_elim w
    exact wpv_step (o := .unOp op ty x) rfl (fun tm ht => by unfold pUn; rw [ht.operand]; exact hv) w
  | makeFunc fn a b =>
    cases fn <;> try exact w.elim
    rename_i f
    exact wpv_step (o := .makeFunc (.func f) a b) rfl (fun tm ht => by unfold pFunc; simp only []; rw [ht.operands, ht.operands]) w
  | makeMap t r =>
    cases r with
    | some r => exact w.elim
    | none =>
      obtain ⟨b, g, hv, w⟩ := alS_elim (L := fun v H' => wpPut fc.nt dst v (fun s' => W fc.nt (fun m n tm h => K m n tm [] h) s' H' Q) s) w
      refine wal_step (o := .makeMap t none) rfl (fun tm ht => ?_) w
      show aMakeMap t none E tm = _
      unfold aMakeMap
      cases hu : E.under t with
      | none => rw [hu] at hv; cases hv
      | some dd =>
        rw [hu] at hv
        cases dd <;> first | exact hv | cases hv
  | slice t x lo hi mx =>
    obtain ⟨v, hv, w⟩ := wpV_elim w
    exact wpv_step (o := .slice t x lo hi mx) rfl (fun tm ht => by unfold pSlice; rw [ht.operand, optOperand_view ht, optOperand_view ht, optOperand_view ht]; exact hv) w
  | fieldAddr t x f =>
    obtain ⟨v, hv, w⟩ := wpV_elim w
    exact wpv_step (o := .fieldAddr t x f) rfl (fun tm ht => by unfold pFieldAddr; rw [ht.operand]; exact hv) w
  | indexAddr t x i =>
    obtain ⟨v, hv, w⟩ := wpV_elim w
    exact wpv_step (o := .indexAddr t x i) rfl (fun tm ht => by unfold pIndexAddr; rw [ht.operand, ht.operand]; exact hv) w
  | index t x i =>
    obtain ⟨v, hv, w⟩ := wpV_elim w
    exact wpv_step (o := .index t x i) rfl (fun tm ht => by unfold pIndex; rw [ht.operand, ht.operand]; exact hv) w
  | lookup t x i ok =>
    obtain ⟨v, hv, w⟩ := wpV_elim w
    exact wrd_step (o := .lookup t x i ok) rfl (fun D tm h ht hh => by unfold pLookup; rw [ht.operand, ht.operand, lookupS_eq hh]; exact hv) w
  | mapUpdate t m k v =>
    exact wfull_step (o := .mapUpdate t m k v) rfl (fun tm ht => by unfold xUpdate; rw [ht.operand, ht.operand, ht.operand]) (updateS_ok t (opS s m) (opS s k) (opS s v)) w
  | extract x i =>
    obtain ⟨v, hv, w⟩ := wpV_elim w
    exact wpv_step (o := .extract x i) rfl (fun tm ht => by unfold pExtract; rw [ht.operand]; exact hv) w
  | call c =>
    obtain ⟨callee, args, ts⟩ := c
    cases callee with
    | invoke => exact w.elim
    | value f =>
      have w : evCall E d (opS s f) (args.toList.map (opS s)) H _ := w
      cases hf : opS s f <;> (try (rw [hf] at w; exact w.elim))
      rename_i g first captured
      rw [hf] at w
      refine wcall_step (o := .call ⟨.value f, args, ts⟩) rfl (fun tm ht n h => ?_) w
      show invokeA (operand tm f) (operands tm args.toList) h = _
      rw [ht.operand, hf, ht.operands]; rfl
    | builtin b =>
      replace w : evBuiltin E b ts.toList (args.toList.map (opS s)) H (fun v H' => wpPut fc.nt dst v (fun s' => W fc.nt (fun m n tm h => K m n tm [] h) s' H' Q) s) := w
      unfold evBuiltin at w
      split at w
      · rename_i t rest x ht hl
        obtain ⟨v, hv, w2⟩ := wpV_elim w; clear w
        obtain ⟨y, hy, rfl⟩ : ∃ y, args.toList = [y] ∧ opS s y = x := by
          match ha : args.toList with
          | [] => rw [ha] at hl; cases hl
          | [y] => rw [ha] at hl; cases hl; exact ⟨y, rfl, rfl⟩
          | _ :: _ :: _ => rw [ha] at hl; cases hl
        unfold lenS at hv
        cases hu : E.under t with
        | none => rw [hu] at hv; cases hv
        | some dd =>
          rw [hu] at hv
          have hd : doOp (.call ⟨.builtin .len, args, ts⟩) E = .pv fun _ tm => lenV (operand tm y) dd := by
            show callD E ⟨.builtin .len, args, ts⟩ = _
            unfold callD
            show builtinD .len ⟨.builtin .len, args, ts⟩ E ts.toList args.toList = _
            rw [ht, hy]
            show lenD t y (E.under t) = _
            rw [hu]
            cases dd <;> first | rfl | cases hv
          refine wpv_step hd (fun tm ht => ?_) w2
          rw [ht.operand]
          cases dd <;> first | exact hv | cases hv
      · rename_i t rest x ht hl
        obtain ⟨v, hv, w2⟩ := wpV_elim w; clear w
        obtain ⟨y, hy, rfl⟩ : ∃ y, args.toList = [y] ∧ opS s y = x := by
          match ha : args.toList with
          | [] => rw [ha] at hl; cases hl
          | [y] => rw [ha] at hl; cases hl; exact ⟨y, rfl, rfl⟩
          | _ :: _ :: _ => rw [ha] at hl; cases hl
        have hd : doOp (.call ⟨.builtin .cap, args, ts⟩) E = .pv fun E tm => (E.under t).bind (capV (operand tm y)) := by
          show callD E ⟨.builtin .cap, args, ts⟩ = _
          unfold callD
          show builtinD .cap ⟨.builtin .cap, args, ts⟩ E ts.toList args.toList = _
          rw [ht, hy]; rfl
        refine wpv_step hd (fun tm ht => ?_) w2
        rw [ht.operand]; exact hv
      · rename_i t rest x y ht hl
        have hd : doOp (.call ⟨.builtin .append, args, ts⟩) E = .full (xCall ⟨.builtin .append, args, ts⟩) := by
          show callD E ⟨.builtin .append, args, ts⟩ = _
          unfold callD
          show builtinD .append ⟨.builtin .append, args, ts⟩ E ts.toList args.toList = _
          rw [ht]
          match ha : args.toList with
          | [] => rw [ha] at hl; cases hl
          | [_] => rw [ha] at hl; cases hl
          | [_, _] => rfl
          | _ :: _ :: _ :: _ => rw [ha] at hl; cases hl
        refine wfull_step hd (fun tm hv => ?_) (appendS_ok t rest.head? x y H.next) w
        funext h
        show builtinA .append E ts.toList (operands tm args.toList) H.next h = _
        rw [hv.operands, ht, hl]; rfl
      · rename_i t rest x y ht hl
        have hd : doOp (.call ⟨.builtin .delete, args, ts⟩) E = .full (xCall ⟨.builtin .delete, args, ts⟩) := by
          show callD E ⟨.builtin .delete, args, ts⟩ = _
          unfold callD
          show builtinD .delete ⟨.builtin .delete, args, ts⟩ E ts.toList args.toList = _
          rw [ht]
          match ha : args.toList with
          | [] => rw [ha] at hl; cases hl
          | [_] => rw [ha] at hl; cases hl
          | [_, _] => rfl
          | _ :: _ :: _ :: _ => rw [ha] at hl; cases hl
        refine wfull_step hd (fun tm hv => ?_) (deleteS_ok t x y) w
        funext h
        show builtinA .delete E ts.toList (operands tm args.toList) H.next h = _
        rw [hv.operands, ht, hl]; rfl
      · exact w.elim
  | _ => exact w.elim

theorem nth_sop : ∀ (l : List Oper) (j : Nat), (nth (l.map sop) j).bind (·.dst) = (nth l j).bind (·.dst)
  | [], _ => rfl
  | _ :: _, 0 => rfl
  | _ :: l, j + 1 => nth_sop l j
theorem wantS_view {nt : Nat} {tm : T AV} (ht : TmV nt tm s) (ops : List Oper) (g : Option (Nat × Bool)) (yes no : Out) :
    stepWanted ops g tm yes no = match wantS (ops.map sop) s g with | some b => Bool.rec no yes b | none => .bad := by
  cases g with
  | none => rfl
  | some p =>
    obtain ⟨j, want⟩ := p
    show (match wantedG ops tm j want with | some b => Bool.rec no yes b | none => .bad : Out) = _
    have : wantedG ops tm j want = wantS (ops.map sop) s (some (j, want)) := by
      unfold wantedG wantS
      simp only []
      rw [nth_sop]
      cases (nth ops j).bind (·.dst) with
      | none => rfl
      | some k => simp only []; rw [ht.get]
    rw [this]

/-- A REGION. -/
theorem wpO_ok {ops : List Oper} : ∀ {rest : List Oper} {s : Store} {H : Hp}, wpO E d fc.nt (ops.map sop) (rest.map sop) (fun s H => G E d fc td s H Q) s H → GO E d fc td ops rest s H Q
  | [], s, H, w => GO.nil w
  | o :: rest, s, H, w => by
    replace w : wpB (wantS (ops.map sop) s o.guard) (evO E d o.op s H fun v H' => wpPut fc.nt o.dst v (fun s' => wpO E d fc.nt (ops.map sop) (rest.map sop) (fun s H => G E d fc td s H Q) s' H') s)
      (wpPut fc.nt o.dst undefA (fun s' => wpO E d fc.nt (ops.map sop) (rest.map sop) (fun s H => G E d fc td s H Q) s' H) s) := w
    have hK : ∀ v H' s', wpPut fc.nt o.dst v (fun s' => wpO E d fc.nt (ops.map sop) (rest.map sop) (fun s H => G E d fc td s H Q) s' H') s' →
        wpPut fc.nt o.dst v (fun s' => W fc.nt (fun m n tm h => (fun m n => runOps E (runFr E m d) fc ops (fun tm ds h => loopF E (runFr E m d) fc n tm td ds h) rest) m n tm [] h) s' H' Q) s' := by
      intro v H' s' w
      cases hdst : o.dst with
      | none => rw [hdst] at w; exact wpO_ok (rest := rest) w
      | some k => rw [hdst] at w; exact ⟨w.1, wpO_ok (rest := rest) w.2⟩
    cases hw : wantS (ops.map sop) s o.guard with
    | none => rw [hw] at w; exact w.elim
    | some b =>
      rw [hw] at w
      cases b with
      | true =>
        replace w : evO E d o.op s H fun v H' => wpPut fc.nt o.dst v (fun s' => wpO E d fc.nt (ops.map sop) (rest.map sop) (fun s H => G E d fc td s H Q) s' H') s := w
        have w2 := evO_ok (K := fun m n => runOps E (runFr E m d) fc ops (fun tm ds h => loopF E (runFr E m d) fc n tm td ds h) rest) (dst := o.dst) (Q := Q) (evO_mono w fun v H' => hK v H' s)
        refine W.via 0 (fun m n D _ _ _ tm h ht hh => ⟨tm, h, ht, hh, ?_⟩) w2
        show stepWanted ops o.guard tm _ _ = _
        rw [wantS_view ht, hw]; rfl
      | false =>
        have w2 := wput_ok (K := fun m n => runOps E (runFr E m d) fc ops (fun tm ds h => loopF E (runFr E m d) fc n tm td ds h) rest) (hK undefA H s w)
        refine W.via 0 (fun m n D _ _ _ tm h ht hh => ⟨tm, h, ht, hh, ?_⟩) w2
        show stepWanted ops o.guard tm _ _ = _
        rw [wantS_view ht, hw]; rfl
theorem G.ops {i : Nat} {ops : Array Oper} {l : List SOp} (hl : ops.toList.map sop = l) (w : wpO E d fc.nt l l (fun s H => G E d fc td s H Q) s H) : G E d fc (.code (.region i ops false) :: td) s H Q :=
  G.region (wpO_ok (by rw [hl]; exact w))
end
end
end Go.Ab
end
section
namespace Go.Ab
set_option linter.unusedVariables false
noncomputable section

structure DSt where
  s : Store
  H : Hp
  effs : List Nat
  allocs : List Nat
  snaps : List Hp
  reads : List (Nat × Nat × AObj)
structure DSV (nt D : Nat) (x : DS) (y : DSt) : Prop where
  tm : TmV nt x.tm y.s
  h : HpV D x.h y.H
  effs : x.effs = y.effs
  allocs : x.allocs = y.allocs
  snaps : x.snaps.map Heap.get = y.snaps.map Hp.get
  reads : x.reads = y.reads

def WD (nt : Nat) (K : Nat → Nat → DS → Out) (y : DSt) (Q : AV → Hp → Prop) : Prop :=
  ∃ v H', Q v H' ∧ ∃ N, ∀ m n D, N ≤ m → N ≤ n → N ≤ D → ∀ x, DSV nt D x y → ∃ h', HpV D h' H' ∧ K m n x = .ret (v, h')
theorem WD.via {nt : Nat} {K K' : Nat → Nat → DS → Out} {y y' : DSt} {Q : AV → Hp → Prop} (N0 : Nat)
    (hs : ∀ m n D, N0 ≤ m → N0 ≤ n → N0 ≤ D → ∀ x, DSV nt D x y → ∃ x', DSV nt D x' y' ∧ K m n x = K' m n x') (w : WD nt K' y' Q) : WD nt K y Q := by
  obtain ⟨v, H2, q, N, hN⟩ := w
  refine ⟨v, H2, q, N + N0, fun m n D hm hn hD x hx => ?_⟩
  obtain ⟨x', e2, e4⟩ := hs m n D (by omega) (by omega) (by omega) x hx
  rw [e4]
  exact hN m n D (by omega) (by omega) (by omega) x' e2

def dput (nt : Nat) (dst : Option Nat) (v : AV) (K : DSt → Prop) (y : DSt) : Prop :=
  match dst with | none => K y | some k => k < nt ∧ K { y with s := setS y.s k v }

section
variable {E : Env} {d nt : Nat} {y : DSt} {Q : AV → Hp → Prop} {K : Nat → Nat → KD} {dst : Option Nat}
/-- a value put: the heap is the state's -/
theorem dput_ok {v : AV} (w : dput nt dst v (fun y' => WD nt K y' Q) y) : WD nt (fun m n x => dPut nt dst (K m n) x v x.h) y Q := by
  cases dst with
  | none => exact WD.via 0 (fun m n D _ _ _ x hx => ⟨x, hx, rfl⟩) w
  | some k =>
    obtain ⟨hk, w⟩ := w
    refine WD.via (y' := { y with s := setS y.s k v }) 0 (fun m n D _ _ _ x hx => ⟨⟨x.tm.set k v, x.h, x.effs, x.allocs, x.snaps, x.reads⟩, ⟨hx.tm.set hk v, hx.h, hx.effs, hx.allocs, hx.snaps, hx.reads⟩, ?_⟩) w
    obtain ⟨tm, h, e, a, sn, r⟩ := x
    show (Bool.rec .bad (K m n ⟨tm.set k v, h, e, a, sn, r⟩) (Nat.blt k nt) : Out) = _
    rw [show Nat.blt k nt = true from Nat.ble_eq_true_of_le hk]

def readOkS (late : Nat) (snaps : List (Nat → Option AObj)) (b : Nat) (o : AObj) : Bool := (snaps.take (Nat.succ late)).all fun hs => sameAt o (hs b)
theorem readOk_view {late b : Nat} {o : AObj} {l : List Heap} {l' : List Hp} (h : l.map Heap.get = l'.map Hp.get) : readOk late l b o = readOkS late (l'.map Hp.get) b o := by
  unfold readOk readOkS
  rw [← h, ← List.map_take, List.all_map]; rfl
def readsS (m : Nat) (reads : List (Nat × Nat × AObj)) (H : Hp) : Bool := reads.all fun r => bitAt m r.1 || sameAt r.2.2 (H.get r.2.1)

section
variable (E d) (base i m : Nat)
def rdD (x : AV) (v : Option AV) (y : DSt) (K : AV → DSt → Prop) : Prop :=
  wpV v fun v => match addrOf x with
    | some b => (match y.H.get b with
      | some o => readOkS (countLate m y.effs) (y.snaps.map Hp.get) b o = true ∧ K v { y with reads := (i, b, o) :: y.reads }
      | none => False)
    | none => K v y
def alD (x : Option (AObj × (Nat → AV))) (y : DSt) (K : AV → DSt → Prop) : Prop :=
  match x with
  | some (o, g) => (y.effs.all (bitAt m) || isCells o) = true ∧ K (g (Nat.add base i)) { y with H := y.H.put (Nat.add base i) o, allocs := i :: y.allocs }
  | none => False
def fuD (y : DSt) (K : AV → DSt → Prop) (v : AV) (H' : Hp) : Prop :=
  readsS m y.reads H' = true ∧ K v { y with H := H', effs := i :: y.effs, snaps := H' :: y.snaps }
def evD (op : Op) (y : DSt) (K : AV → DSt → Prop) : Prop :=
  match op with
  | .load t a => rdD i m (opS y.s a) ((ptrOf (opS y.s a)).bind (loadS E t y.H)) y K
  | .lookup t x k ok => rdD i m (opS y.s x) (lookupS E t (opS y.s x) (opS y.s k) ok y.H) y K
  | .alloc e => alD base i m ((E.zero e).map fun z => (.cells z.cells e false, ptrTo)) y K
  | .box e x => alD base i m (boxed e (opS y.s x)) y K
  | .buildSlice t n ps => alD base i m (buildSliceS E y.s t n ps.toList) y K
  | .store t a x => (y.effs.all (bitAt m) && y.allocs.all (bitAt m)) = true ∧ wpH (((ptrOf (opS y.s a)).bind (storeS E t y.H (opS y.s x))).map fun H' => (undefA, H')) (fuD i m y K)
  | .call c => match c.callee with
    | .builtin .len => match c.argTypes.toList, c.args.toList with
      | t :: _, [x] => wpV (lenS E t (opS y.s x)) fun v => K v y
      | _, _ => False
    | .builtin .append => match c.argTypes.toList, c.args.toList with
      | t :: ts, [a, b] => (y.effs.all (bitAt m) && y.allocs.all (bitAt m)) = true ∧ wpH (appendS E t ts.head? (opS y.s a) (opS y.s b) (Nat.add base i) y.H) (fuD i m y K)
      | _, _ => False
    | .value f => (y.effs.all (bitAt m) && y.allocs.all (bitAt m)) = true ∧ (match opS y.s f with
      | .func g first captured => Fn E d g (first ++ c.args.toList.map (opS y.s) ++ captured) y.H (fuD i m y K)
      | _ => False)
    | _ => False
  | .move x => K (opS y.s x) y
  | .assign x => K (opS y.s x) y
  | .pick c a b => wpV (pick1 (opS y.s c) (opS y.s a) (opS y.s b)) fun v => K v y
  | .build t ps => wpV (buildS E y.s t ps.toList) fun v => K v y
  | .binOp op t a b _ => wpV (binA E t (constO a || constO b) op (opS y.s a) (opS y.s b)) fun v => K v y
  | .slice t x lo hi mx => wpV (sliceA E t (opS y.s x) (lo.map (opS y.s)) (hi.map (opS y.s)) (mx.map (opS y.s))) fun v => K v y
  | .fieldAddr t x f => wpV (fieldAddrS E t (opS y.s x) f) fun v => K v y
  | .indexAddr t x k => wpV (indexAddrA E t (opS y.s x) (opS y.s k)) fun v => K v y
  | .extract x k => wpV ((tupOf (opS y.s x)).bind fun l => nth l k) fun v => K v y
  | _ => False
end

variable {base i m0 : Nat} {o : Op}
theorem dpv {f : PF} {v : AV} (hd : doOp o E = .pv f) (hf : ∀ tm, TmV nt tm y.s → f E tm = some v) (w : dput nt dst v (fun y' => WD nt K y' Q) y) :
    WD nt (fun m n x => drawDO (doOp o E) E (runFr E m d) nt dst (K m n) ⟨i, m0, base⟩ x) y Q := by
  refine WD.via 0 (fun m n D _ _ _ x hx => ⟨x, hx, ?_⟩) (dput_ok w)
  obtain ⟨tm, h, e, a, sn, r⟩ := x
  rw [hd]
  show dPutO nt dst (K m n) ⟨tm, h, e, a, sn, r⟩ h (f E tm) = _
  rw [hf tm hx.tm]; rfl
theorem drd {a : Operand} {f : RF} {v : Option AV} (hd : doOp o E = .rd a f) (hf : ∀ D tm h, TmV nt tm y.s → HpV D h y.H → f E tm h = v) (w : rdD i m0 (opS y.s a) v y fun v y' => dput nt dst v (fun y2 => WD nt K y2 Q) y') :
    WD nt (fun m n x => drawDO (doOp o E) E (runFr E m d) nt dst (K m n) ⟨i, m0, base⟩ x) y Q := by
  obtain ⟨v, rfl, w2⟩ := wpV_elim w
  clear w
  have w := w2
  clear w2
  have key : ∀ m n D x, DSV nt D x y → drawDO (doOp o E) E (runFr E m d) nt dst (K m n) ⟨i, m0, base⟩ x = drawRead nt dst (K m n) ⟨i, m0, base⟩ x (some v) (addrOf (opS y.s a)) := by
    intro m n D x hx
    obtain ⟨tm, h, e, al, sn, r⟩ := x
    rw [hd]
    show drawRead nt dst (K m n) ⟨i, m0, base⟩ ⟨tm, h, e, al, sn, r⟩ (f E tm h) (addrOf (operand tm a)) = _
    rw [hf D tm h hx.tm hx.h, hx.tm.operand]
  cases hb : addrOf (opS y.s a) with
  | none =>
    rw [hb] at w
    refine WD.via 0 (fun m n D _ _ _ x hx => ⟨x, hx, ?_⟩) (dput_ok w)
    rw [key m n D x hx, hb]
    obtain ⟨tm, h, e, al, sn, r⟩ := x; rfl
  | some b =>
    rw [hb] at w
    cases ho : y.H.get b with
    | none => simp only [ho] at w
    | some ob =>
      simp only [ho] at w
      obtain ⟨hr, w⟩ := w
      refine WD.via (y' := { y with reads := (i, b, ob) :: y.reads }) 0 (fun m n D _ _ _ x hx => ⟨⟨x.tm, x.h, x.effs, x.allocs, x.snaps, (i, b, ob) :: x.reads⟩, ⟨hx.tm, hx.h, hx.effs, hx.allocs, hx.snaps, congrArg ((i, b, ob) :: ·) hx.reads⟩, ?_⟩) (dput_ok w)
      rw [key m n D x hx, hb]
      obtain ⟨tm, h, e, al, sn, r⟩ := x
      have e1 : h.get b = some ob := (hx.h.get b).trans ho
      show (match h.get b with
        | some o => Bool.rec .bad (dPutO nt dst (K m n) ⟨tm, h, e, al, sn, (i, b, o) :: r⟩ h (some v)) (readOk (countLate m0 e) sn b o)
        | none => .bad : Out) = _
      rw [e1]
      simp only []
      rw [readOk_view hx.snaps, show e = y.effs from hx.effs, hr]; rfl
theorem dal {f : AF} {x : Option (AObj × (Nat → AV))} (hd : doOp o E = .al f) (hf : ∀ tm, TmV nt tm y.s → f E tm = x) (w : alD base i m0 x y fun v y' => dput nt dst v (fun y2 => WD nt K y2 Q) y') :
    WD nt (fun m n x => drawDO (doOp o E) E (runFr E m d) nt dst (K m n) ⟨i, m0, base⟩ x) y Q := by
  cases x with
  | none => exact w.elim
  | some p =>
    obtain ⟨ob, g⟩ := p
    obtain ⟨hc, w⟩ := w
    refine WD.via (base + i + 1) (fun m n D _ _ hD x hx => ?_) (dput_ok w)
    obtain ⟨tm, ⟨t, nx, l⟩, e, al, sn, r⟩ := x
    have hp := hx.h.put (b := Nat.add base i) (show base + i < D by omega) ob
    refine ⟨⟨tm, ⟨t.set (Nat.add base i) (some ob), nx, Nat.add base i :: l⟩, e, i :: al, sn, r⟩, ⟨hx.tm, hp, hx.effs, congrArg (i :: ·) hx.allocs, hx.snaps, hx.reads⟩, ?_⟩
    rw [hd]
    show (match f E tm with
      | some (o, g) => Bool.rec .bad (dPut nt dst (K m n) ⟨tm, ⟨t, nx, l⟩, e, i :: al, sn, r⟩ (g (Nat.add base i)) ⟨t.set (Nat.add base i) (some o), nx, Nat.add base i :: l⟩) (e.all (bitAt m0) || isCells o)
      | none => .bad : Out) = _
    rw [hf tm hx.tm]
    simp only []
    rw [show e = y.effs from hx.effs, hc]
    cases dst <;> rfl

theorem dfu_core {f : XF} {v : AV} {H' : Hp} (hd : doOp o E = .full f) (hea : (y.effs.all (bitAt m0) && y.allocs.all (bitAt m0)) = true)
    (hrun : ∃ N, ∀ m D, N ≤ m → N ≤ D → ∀ x, DSV nt D x y → ∃ h', HpV D h' H' ∧ drawFull E (runFr E m d) f ⟨i, m0, base⟩ x.tm x.h = .ret (v, h'))
    (w : fuD i m0 y (fun v y' => dput nt dst v (fun y2 => WD nt K y2 Q) y') v H') : WD nt (fun m n x => drawDO (doOp o E) E (runFr E m d) nt dst (K m n) ⟨i, m0, base⟩ x) y Q := by
  obtain ⟨hr, w⟩ := w
  obtain ⟨N, hN⟩ := hrun
  refine WD.via N (fun m n D hm _ hD x hx => ?_) (dput_ok w)
  obtain ⟨h', e1, e2⟩ := hN m D hm hD x hx
  obtain ⟨tm, h, e, al, sn, r⟩ := x
  refine ⟨⟨tm, h', i :: e, al, h' :: sn, r⟩, ⟨hx.tm, e1, congrArg (i :: ·) hx.effs, hx.allocs, ?_, hx.reads⟩, ?_⟩
  · show Heap.get h' :: sn.map Heap.get = Hp.get H' :: y.snaps.map Hp.get
    rw [show Heap.get h' = Hp.get H' from funext e1.get, hx.snaps]
  · rw [hd]
    show (Bool.rec .bad (only (drawFull E (runFr E m d) f ⟨i, m0, base⟩ tm h) (drawEff nt dst (K m n) ⟨i, m0, base⟩ ⟨tm, h, e, al, sn, r⟩)) (e.all (bitAt m0) && al.all (bitAt m0)) : Out) = _
    rw [show e = y.effs from hx.effs, show al = y.allocs from hx.allocs, hea]
    simp only [] at e2 ⊢
    rw [e2]
    show (Bool.rec .bad (dPut nt dst (K m n) ⟨tm, h', i :: y.effs, y.allocs, h' :: sn, r⟩ v h') (r.all fun r => bitAt m0 r.1 || sameAt r.2.2 (h'.get r.2.1)) : Out) = _
    have : (r.all fun r => bitAt m0 r.1 || sameAt r.2.2 (h'.get r.2.1)) = true := by
      rw [show r = y.reads from hx.reads, funext e1.get]; exact hr
    rw [this]
theorem dfu {f : XF} {F : Heap → R} {x : Option (AV × Hp)} (hd : doOp o E = .full f) (hf : ∀ tm, TmV nt tm y.s → f E tm (Nat.add base i) = F) (hF : Tells F y.H x) (hea : (y.effs.all (bitAt m0) && y.allocs.all (bitAt m0)) = true)
    (w : wpH x (fuD i m0 y fun v y' => dput nt dst v (fun y2 => WD nt K y2 Q) y')) : WD nt (fun m n x => drawDO (doOp o E) E (runFr E m d) nt dst (K m n) ⟨i, m0, base⟩ x) y Q := by
  cases hx : x with
  | none => rw [hx] at w; exact w.elim
  | some p =>
    obtain ⟨v, H'⟩ := p
    rw [hx] at w
    obtain ⟨N, hN⟩ := hF v H' hx
    refine dfu_core hd hea ⟨N, fun m D _ hD z hz => ?_⟩ w
    obtain ⟨h', e1, e2⟩ := hN D hD z.h hz.h
    refine ⟨h', e1, ?_⟩
    unfold drawFull
    show (f E z.tm (Nat.add base i) z.h).bind _ = _
    rw [hf z.tm hz.tm, e2]; rfl
theorem dcall {f : XF} {g : FuncId} {args : List AV} (hd : doOp o E = .full f) (hf : ∀ tm, TmV nt tm y.s → ∀ n h, f E tm n h = .ret (.enter g args, h)) (hea : (y.effs.all (bitAt m0) && y.allocs.all (bitAt m0)) = true)
    (w : Fn E d g args y.H (fuD i m0 y fun v y' => dput nt dst v (fun y2 => WD nt K y2 Q) y')) : WD nt (fun m n x => drawDO (doOp o E) E (runFr E m d) nt dst (K m n) ⟨i, m0, base⟩ x) y Q := by
  obtain ⟨v, H', w, N, hN⟩ := w
  refine dfu_core hd hea ⟨N, fun m D hm hD z hz => ?_⟩ w
  obtain ⟨h', e1, e2⟩ := hN m D hm hD z.h hz.h
  refine ⟨h', e1, ?_⟩
  unfold drawFull
  show (f E z.tm (Nat.add base i) z.h).bind _ = _
  rw [hf z.tm hz.tm]
  show (callA E (runFr E m d) g args z.h).andThen (fun v h => .ret (v, h)) = _
  rw [e2]; rfl

theorem evD_ok {o : Op} (w : evD E d base i m0 o y fun v y' => dput nt dst v (fun y2 => WD nt K y2 Q) y') : WD nt (fun m n x => drawDO (doOp o E) E (runFr E m d) nt dst (K m n) ⟨i, m0, base⟩ x) y Q := by
  cases o with
  | move x => exact dpv (o := .move x) rfl (fun tm ht => congrArg some (ht.operand x)) w
  | assign x => exact dpv (o := .assign x) rfl (fun tm ht => congrArg some (ht.operand x)) w
  | pick c a b =>
    obtain ⟨v, hv, w⟩ := wpV_elim w
    exact dpv (o := .pick c a b) rfl (fun tm ht => by unfold pPick; rw [ht.operand, ht.operand, ht.operand]; exact hv) w
  | alloc e => exact dal (o := .alloc e) rfl (fun tm ht => rfl) w
  | box e x => exact dal (o := .box e x) rfl (fun tm ht => by unfold aBox; rw [ht.operand]) w
  | build t ps =>
    obtain ⟨v, hv, w⟩ := wpV_elim w
    exact dpv (o := .build t ps) rfl (fun tm ht => (buildS_eq ht t ps).trans hv) w
  | buildSlice t n ps => exact dal (o := .buildSlice t n ps) rfl (fun tm ht => buildSliceS_eq ht t n ps) w
  | load t a => exact drd (o := .load t a) rfl (fun D tm h ht hh => by unfold pLoad; rw [ht.operand, funext (hh.load t)]) w
  | store t a x =>
    obtain ⟨hea, w⟩ := w
    cases hp : ptrOf (opS y.s a) with
    | none => rw [hp] at w; exact w.elim
    | some p =>
      rw [hp] at w
      refine dfu (o := .store t a x) rfl (fun tm ht => ?_) (storeS_ok t (opS y.s x) p) hea w
      funext h
      show (match (ptrOf (operand tm a)).bind (storeA E t h (operand tm x)) with | some h' => val undefA h' | none => .bad : R) = _
      rw [ht.operand, ht.operand, hp]; rfl
  | binOp op t x z ty =>
    obtain ⟨v, hv, w⟩ := wpV_elim w
    exact dpv (o := .binOp op t x z ty) rfl (fun tm ht => by unfold pBin; rw [ht.operand, ht.operand]; exact hv) w
  | slice t x lo hi mx =>
    obtain ⟨v, hv, w⟩ := wpV_elim w
    exact dpv (o := .slice t x lo hi mx) rfl (fun tm ht => by unfold pSlice; rw [ht.operand, optOperand_view ht, optOperand_view ht, optOperand_view ht]; exact hv) w
  | fieldAddr t x f =>
    obtain ⟨v, hv, w⟩ := wpV_elim w
    exact dpv (o := .fieldAddr t x f) rfl (fun tm ht => by unfold pFieldAddr; rw [ht.operand]; exact hv) w
  | indexAddr t x k =>
    obtain ⟨v, hv, w⟩ := wpV_elim w
    exact dpv (o := .indexAddr t x k) rfl (fun tm ht => by unfold pIndexAddr; rw [ht.operand, ht.operand]; exact hv) w
  | lookup t x k ok => exact drd (o := .lookup t x k ok) rfl (fun D tm h ht hh => by unfold pLookup; rw [ht.operand, ht.operand, lookupS_eq hh]) w
  | extract x k =>
    obtain ⟨v, hv, w⟩ := wpV_elim w
    exact dpv (o := .extract x k) rfl (fun tm ht => by unfold pExtract; rw [ht.operand]; exact hv) w
  | call c =>
    obtain ⟨callee, args, ts⟩ := c
    cases callee with
    | invoke => exact w.elim
    | value f =>
      obtain ⟨hea, w⟩ := w
      cases hf : opS y.s f <;> (try (rw [hf] at w; exact w.elim))
      rename_i g first captured
      rw [hf] at w
      refine dcall (o := .call ⟨.value f, args, ts⟩) rfl (fun tm ht n h => ?_) hea w
      show invokeA (operand tm f) (operands tm args.toList) h = _
      rw [ht.operand, hf, ht.operands]; rfl
    | builtin b =>
      cases b <;> try exact w.elim
      · -- append
        have w : (match ts.toList, args.toList with
          | t :: ts, [a, b] => (y.effs.all (bitAt m0) && y.allocs.all (bitAt m0)) = true ∧ wpH (appendS E t ts.head? (opS y.s a) (opS y.s b) (Nat.add base i) y.H) (fuD i m0 y fun v y' => dput nt dst v (fun y2 => WD nt K y2 Q) y')
          | _, _ => False) := w
        split at w
        · rename_i t rest a b ht hl
          obtain ⟨hea, w⟩ := w
          have hd : doOp (.call ⟨.builtin .append, args, ts⟩) E = .full (xCall ⟨.builtin .append, args, ts⟩) := by
            show callD E ⟨.builtin .append, args, ts⟩ = _
            unfold callD
            show builtinD .append ⟨.builtin .append, args, ts⟩ E ts.toList args.toList = _
            rw [ht, hl]; rfl
          refine dfu hd (fun tm hv => ?_) (appendS_ok t rest.head? (opS y.s a) (opS y.s b) (Nat.add base i)) hea w
          funext h
          show builtinA .append E ts.toList (operands tm args.toList) (Nat.add base i) h = _
          rw [hv.operands, ht, hl]; rfl
        · exact w.elim
      · -- len
        have w : (match ts.toList, args.toList with
          | t :: _, [x] => wpV (lenS E t (opS y.s x)) fun v => dput nt dst v (fun y2 => WD nt K y2 Q) y
          | _, _ => False) := w
        split at w
        · rename_i t rest x ht hl
          obtain ⟨v, hv, w⟩ := wpV_elim w
          unfold lenS at hv
          cases hu : E.under t with
          | none => rw [hu] at hv; cases hv
          | some dd =>
            rw [hu] at hv
            have hd : doOp (.call ⟨.builtin .len, args, ts⟩) E = .pv fun _ tm => lenV (operand tm x) dd := by
              show callD E ⟨.builtin .len, args, ts⟩ = _
              unfold callD
              show builtinD .len ⟨.builtin .len, args, ts⟩ E ts.toList args.toList = _
              rw [ht, hl]
              show lenD t x (E.under t) = _
              rw [hu]
              cases dd <;> first | rfl | cases hv
            refine dpv hd (fun tm ht => ?_) w
            rw [ht.operand]
            cases dd <;> first | exact hv | cases hv
        · exact w.elim
  | _ => exact w.elim

/-- an operation of a region that draws, its number, what is ahead of it -/
structure TOp where
  i : Nat
  o : SOp
  m : Nat
def top (t : Tr) : TOp := ⟨t.i, sop t.o, t.m⟩
def wpD (E : Env) (d nt base : Nat) (all : List SOp) : List TOp → (Store → Hp → Prop) → DSt → Prop
  | [], L, y => L y.s y.H
  | t :: r, L, y => wpB (wantS all y.s t.o.g) (evD E d base t.i t.m t.o.op y fun v y' => dput nt t.o.dst v (fun y2 => wpD E d nt base all r L y2) y') (dput nt t.o.dst undefA (fun y2 => wpD E d nt base all r L y2) y)

theorem evD_mono {op : Op} {K1 K2 : AV → DSt → Prop} (w : evD E d base i m0 op y K1) (h : ∀ v y', K1 v y' → K2 v y') : evD E d base i m0 op y K2 := by
  have hrd : ∀ (x : AV) (v : Option AV), rdD i m0 x v y K1 → rdD i m0 x v y K2 := by
    intro x v w
    refine wpV_mono w fun v w => ?_
    cases hb : addrOf x with
    | none => rw [hb] at w; exact h _ _ w
    | some b =>
      rw [hb] at w
      cases ho : y.H.get b with
      | none => simp only [ho] at w
      | some o => simp only [ho] at w ⊢; exact ⟨w.1, h _ _ w.2⟩
  have hal : ∀ x, alD base i m0 x y K1 → alD base i m0 x y K2 := by
    intro x w
    cases x with
    | none => exact w.elim
    | some p => exact ⟨w.1, h _ _ w.2⟩
  have hfu : ∀ v H', fuD i m0 y K1 v H' → fuD i m0 y K2 v H' := fun v H' w => ⟨w.1, h _ _ w.2⟩
  cases op <;> first
    | exact h _ _ w
    | exact wpV_mono w fun v => h v y
    | exact hrd _ _ w
    | exact hal _ w
    | exact ⟨w.1, wpH_mono w.2 hfu⟩
    | exact w.elim
    | skip
  rename_i c
  obtain ⟨callee, args, ts⟩ := c
  cases callee with
  | invoke => exact w.elim
  | value f =>
    refine ⟨w.1, ?_⟩
    have w2 := w.2
    cases hf : opS y.s f <;> rw [hf] at w2 <;> first | exact w2.elim | exact Fn.mono w2 hfu
  | builtin b =>
    cases b <;> try exact w.elim
    · have w : (match ts.toList, args.toList with
          | t :: ts, [a, b] => (y.effs.all (bitAt m0) && y.allocs.all (bitAt m0)) = true ∧ wpH (appendS E t ts.head? (opS y.s a) (opS y.s b) (Nat.add base i) y.H) (fuD i m0 y K1)
          | _, _ => False) := w
      show (match ts.toList, args.toList with
          | t :: ts, [a, b] => (y.effs.all (bitAt m0) && y.allocs.all (bitAt m0)) = true ∧ wpH (appendS E t ts.head? (opS y.s a) (opS y.s b) (Nat.add base i) y.H) (fuD i m0 y K2)
          | _, _ => False)
      split at w
      · exact ⟨w.1, wpH_mono w.2 hfu⟩
      · exact w.elim
    · have w : (match ts.toList, args.toList with
          | t :: _, [x] => wpV (lenS E t (opS y.s x)) fun v => K1 v y
          | _, _ => False) := w
      show (match ts.toList, args.toList with
          | t :: _, [x] => wpV (lenS E t (opS y.s x)) fun v => K2 v y
          | _, _ => False)
      split at w
      · exact wpV_mono w fun v => h v y
      · exact w.elim

theorem wpD_ok {fc : FC} {td : List Item} {ops : List Oper} : ∀ {l : List Tr} {y : DSt}, wpD E d fc.nt base (ops.map sop) (l.map top) (fun s H => G E d fc td s H Q) y →
    WD fc.nt (fun m n x => drawOps E (runFr E m d) fc.nt ops base (behindDraw (loopF E (runFr E m d) fc n) td []) l x) y Q
  | [], y, w => by
    obtain ⟨v, H', q, N, hN⟩ := w
    refine ⟨v, H', q, N, fun m n D hm hn hD x hx => ?_⟩
    obtain ⟨tm, h, e, al, sn, r⟩ := x
    exact hN m n D hm hn hD tm h hx.tm hx.h
  | t :: l, y, w => by
    replace w : wpB (wantS (ops.map sop) y.s t.o.guard) (evD E d base t.i t.m t.o.op y fun v y' => dput fc.nt t.o.dst v (fun y2 => wpD E d fc.nt base (ops.map sop) (l.map top) (fun s H => G E d fc td s H Q) y2) y')
      (dput fc.nt t.o.dst undefA (fun y2 => wpD E d fc.nt base (ops.map sop) (l.map top) (fun s H => G E d fc td s H Q) y2) y) := w
    have hK : ∀ v y', dput fc.nt t.o.dst v (fun y2 => wpD E d fc.nt base (ops.map sop) (l.map top) (fun s H => G E d fc td s H Q) y2) y' →
        dput fc.nt t.o.dst v (fun y2 => WD fc.nt (fun m n x => (fun m n => drawOps E (runFr E m d) fc.nt ops base (behindDraw (loopF E (runFr E m d) fc n) td []) l) m n x) y2 Q) y' := by
      intro v y' w
      cases hdst : t.o.dst with
      | none => rw [hdst] at w; exact wpD_ok (l := l) w
      | some k => rw [hdst] at w; exact ⟨w.1, wpD_ok (l := l) w.2⟩
    have hstep : ∀ m n D x, DSV fc.nt D x y → drawOps E (runFr E m d) fc.nt ops base (behindDraw (loopF E (runFr E m d) fc n) td []) (t :: l) x =
        match wantS (ops.map sop) y.s t.o.guard with
        | some b => Bool.rec (dPut fc.nt t.o.dst (drawOps E (runFr E m d) fc.nt ops base (behindDraw (loopF E (runFr E m d) fc n) td []) l) x undefA x.h)
            (drawDO (doOp t.o.op E) E (runFr E m d) fc.nt t.o.dst (drawOps E (runFr E m d) fc.nt ops base (behindDraw (loopF E (runFr E m d) fc n) td []) l) ⟨t.i, t.m, base⟩ x) b
        | none => .bad := by
      intro m n D x hx
      obtain ⟨tm, h, e, al, sn, r⟩ := x
      exact wantS_view hx.tm ops t.o.guard _ _
    cases hw : wantS (ops.map sop) y.s t.o.guard with
    | none => rw [hw] at w; exact w.elim
    | some b =>
      rw [hw] at w
      cases b with
      | true =>
        have w2 := evD_ok (K := fun m n => drawOps E (runFr E m d) fc.nt ops base (behindDraw (loopF E (runFr E m d) fc n) td []) l) (dst := t.o.dst) (Q := Q) (nt := fc.nt) (evD_mono w fun v y' => hK v y')
        refine WD.via 0 (fun m n D _ _ _ x hx => ⟨x, hx, ?_⟩) w2
        rw [hstep m n D x hx, hw]
      | false =>
        have w2 := dput_ok (K := fun m n => drawOps E (runFr E m d) fc.nt ops base (behindDraw (loopF E (runFr E m d) fc n) td []) l) (hK undefA y w)
        refine WD.via 0 (fun m n D _ _ _ x hx => ⟨x, hx, ?_⟩) w2
        rw [hstep m n D x hx, hw]

/-- A REGION THAT DRAWS. -/
theorem G.draw {fc : FC} {td : List Item} {s : Store} {H : Hp} {id : Nat} {ops : Array Oper} {l : List SOp} {t : List TOp} {k : Nat} (ho : E.ord fc.fn id = []) (hl : ops.toList.map sop = l) (ht : (trs ops.toList 0 (.full 0 8)).map top = t) (hk : l.length = k)
    (w : wpD E d fc.nt H.next l t (fun s H => G E d fc td s H Q) ⟨s, ⟨H.get, H.next + k⟩, [], [], [H], []⟩) : G E d fc (.code (.region id ops true) :: td) s H Q := by
  subst hl ht
  rw [List.length_map] at hk
  subst hk
  obtain ⟨v, H', q, N, hN⟩ := wpD_ok w
  refine ⟨v, H', q, N + 1, fun m n D hm hn hD tm h hv hh => ?_⟩
  obtain ⟨n, rfl⟩ : ∃ k, n = k + 1 := ⟨n - 1, by omega⟩
  obtain ⟨t, nx, lg⟩ := h
  have hnx := hh.next_mk
  obtain ⟨h', e1, e2⟩ := hN m n D (by omega) (by omega) (by omega) ⟨tm, ⟨t, Nat.add nx (len ops.toList), lg⟩, [], [], [⟨t, nx, lg⟩], []⟩
    ⟨hv, ⟨by show Nat.add nx (len ops.toList) = H.next + _; rw [len_eq, hnx]; rfl, hh.get, hh.has⟩, rfl, rfl, by show [Heap.get ⟨t, nx, lg⟩] = [H.get]; rw [funext hh.get], rfl⟩
  refine ⟨h', e1, ?_⟩
  show drawOps E (runFr E m d) fc.nt ops.toList nx (behindDraw (loopF E (runFr E m d) fc n) td []) (ordered (trs ops.toList 0 (.full 0 8)) (E.ord fc.fn id)) ⟨tm, ⟨t, Nat.add nx (len ops.toList), lg⟩, [], [], [⟨t, nx, lg⟩], []⟩ = _
  rw [ho, hnx]
  rw [hnx] at e2
  exact e2
end
end
end Go.Ab
end
section
namespace Go.Ab
section
variable {α : Type} [DecidableEq α]
/-- what became of what -/
abbrev PM (α : Type) := List (α × α)
def plk (k : α) : PM α → Option α
  | [] => none
  | (a, v) :: r => if k = a then some v else plk k r
def prm (k : α) : PM α → PM α
  | [] => []
  | (a, v) :: r => if k = a then r else (a, v) :: prm k r
def prmAll : PM α → List α → PM α
  | m, [] => m
  | m, k :: l => prmAll (prm k m) l
/-- an atom's terms laid onto another one's -/
def layF : PM α → List α → List α → List α → PM α × List α × Bool
  | m, fr, x :: xs, y :: ys =>
    match plk x m with
    | none => layF (m ++ [(x, y)]) (fr ++ [x]) xs ys
    | some v => if v = y then layF m fr xs ys else (prmAll m fr, [], false)
  | m, fr, _, _ => (m, fr, true)
end
end Go.Ab
end
