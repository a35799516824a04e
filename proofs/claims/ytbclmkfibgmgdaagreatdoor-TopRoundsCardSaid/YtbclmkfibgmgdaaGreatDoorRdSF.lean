/- Rules by which regions are run. Rules by which drawing regions are run. Conditions: none. -/
import Derived.Test.YtbclmkfibgmgdaaGreatDoorRdVT
import Derived.Test.YtbclmkfibgmgdaaGreatDoorRdSE
section
namespace Go.Ab
set_option linter.unusedVariables false
noncomputable section

section
variable {E : Env} {d nt : Nat} {s : Store} {H : Hp}
attribute [congr] wpB_congr
/-- a value, a store at hand: what is not marked so is not run on -/
def vv (v : AV) : AV := v
def st (s : Store) : Store := s
theorem G.run {fc : FC} {td : List Item} {Q : AV → Hp → Prop} {i : Nat} {ops : Array Oper} {l : List SOp} (hl : ops.toList.map sop = l) (w : wpO E d fc.nt l l (fun s H => G E d fc td s H Q) (st s) H) : G E d fc (.code (.region i ops false) :: td) s H Q := G.ops hl w
theorem Fn.use {f : FuncId} {args : List AV} {P K : AV → Hp → Prop} (w : Go.Ab.Fn E d f args H P) (h : ∀ v H', P v H' → K (vv v) H') : Go.Ab.Fn E d f args H K := w.mono h
@[simp] theorem wpV_vv (v : AV) (K : AV → Prop) : wpV (some v) K = K (vv v) := rfl
@[simp] theorem wpH_vv (v : AV) (K : AV → Hp → Prop) : wpH (some (v, H)) K = K (vv v) H := rfl
@[simp] theorem alS_vv (o : AObj) (g : Nat → AV) (K : AV → Hp → Prop) : alS (some (o, g)) H K = K (vv (g H.next)) (H.new o) := rfl

section
variable {K : AV → Hp → Prop} {L : Store → Hp → Prop} {all r : List SOp} {dst : Option Nat} {op : Op}
@[simp] theorem wpO_nil : wpO E d nt all [] L (st s) H = L s H := rfl
@[simp] theorem wpO_none : wpO E d nt all (⟨dst, op, none⟩ :: r) L (st s) H = evO E d op s H fun v H' => wpPut nt dst v (fun s' => wpO E d nt all r L s' H') (st s) := rfl
@[simp] theorem wpO_some (g : Nat × Bool) : wpO E d nt all (⟨dst, op, some g⟩ :: r) L (st s) H = wpB (wantS all s (some g)) (evO E d op s H fun v H' => wpPut nt dst v (fun s' => wpO E d nt all r L s' H') (st s)) (wpPut nt dst (vv undefA) (fun s' => wpO E d nt all r L s' H) (st s)) := rfl
@[simp] theorem evO_move (x : Operand) : evO E d (.move x) s H K = K (vv (opS s x)) H := rfl
@[simp] theorem evO_assign (x : Operand) : evO E d (.assign x) s H K = K (vv (opS s x)) H := rfl
@[simp] theorem evO_pick (c a b : Operand) : evO E d (.pick c a b) s H K = wpV (pick1 (opS s c) (opS s a) (opS s b)) fun v => K v H := rfl
@[simp] theorem evO_alloc (e : TypeId) : evO E d (.alloc e) s H K = alS ((E.zero e).map fun z => (.cells z.cells e false, ptrTo)) H K := rfl
@[simp] theorem evO_box (e : TypeId) (x : Operand) : evO E d (.box e x) s H K = alS (boxed e (opS s x)) H K := rfl
@[simp] theorem evO_build (t : TypeId) (ps : Array (Nat × Operand)) : evO E d (.build t ps) s H K = wpV (buildS E s t ps.toList) fun v => K v H := rfl
@[simp] theorem evO_buildSlice (t : TypeId) (n : Nat) (ps : Array (Nat × Operand)) : evO E d (.buildSlice t n ps) s H K = alS (buildSliceS E s t n ps.toList) H K := rfl
@[simp] theorem evO_load (t : TypeId) (a : Operand) : evO E d (.load t a) s H K = wpV ((ptrOf (opS s a)).bind (loadS E t H)) fun v => K v H := rfl
@[simp] theorem evO_store (t : TypeId) (a x : Operand) : evO E d (.store t a x) s H K = wpH (((ptrOf (opS s a)).bind (storeS E t H.skip (opS s x))).map fun H' => (undefA, H')) K := rfl
@[simp] theorem evO_binOp (b : BinOp) (t u : TypeId) (x y : Operand) : evO E d (.binOp b t x y u) s H K = wpV (binA E t (constO x || constO y) b (opS s x) (opS s y)) fun v => K v H := rfl
@[simp] theorem evO_unOp (b : UnOp) (t : TypeId) (x : Operand) : evO E d (.unOp b t x) s H K = wpV (unA b (opS s x)) fun v => K v H := rfl
@[simp] theorem evO_makeFunc (f : FuncId) (a b : Array Operand) : evO E d (.makeFunc (.func f) a b) s H K = K (vv (.func f (a.toList.map (opS s)) (b.toList.map (opS s)))) H := rfl
@[simp] theorem evO_makeMap (t : TypeId) : evO E d (.makeMap t none) s H K = alS (bif ((E.under t).map isMap).getD false then some (.map [] 0, .map) else none) H K := rfl
@[simp] theorem evO_slice (t : TypeId) (x : Operand) (lo hi mx : Option Operand) : evO E d (.slice t x lo hi mx) s H K = wpV (sliceA E t (opS s x) (lo.map (opS s)) (hi.map (opS s)) (mx.map (opS s))) fun v => K v H := rfl
@[simp] theorem evO_fieldAddr (t : TypeId) (x : Operand) (f : Nat) : evO E d (.fieldAddr t x f) s H K = wpV (fieldAddrS E t (opS s x) f) fun v => K v H := rfl
@[simp] theorem evO_indexAddr (t : TypeId) (x i : Operand) : evO E d (.indexAddr t x i) s H K = wpV (indexAddrA E t (opS s x) (opS s i)) fun v => K v H := rfl
@[simp] theorem evO_index (t : TypeId) (x i : Operand) : evO E d (.index t x i) s H K = wpV (indexVA E t (opS s x) (opS s i)) fun v => K v H := rfl
@[simp] theorem evO_lookup (t : TypeId) (x i : Operand) (ok : Bool) : evO E d (.lookup t x i ok) s H K = wpV (lookupS E t (opS s x) (opS s i) ok H) fun v => K v H := rfl
@[simp] theorem evO_mapUpdate (t : TypeId) (m k v : Operand) : evO E d (.mapUpdate t m k v) s H K = wpH ((updateS E t (opS s m) (opS s k) (opS s v) H.skip).map fun H' => (undefA, H')) K := rfl
@[simp] theorem evO_extract (x : Operand) (i : Nat) : evO E d (.extract x i) s H K = wpV ((tupOf (opS s x)).bind fun l => nth l i) fun v => K v H := rfl
@[simp] theorem evO_len (x : Operand) (t : TypeId) : evO E d (.call ⟨.builtin .len, #[x], #[t]⟩) s H K = wpV (lenS E t (opS s x)) fun v => K v H := rfl
@[simp] theorem evO_cap (x : Operand) (t : TypeId) : evO E d (.call ⟨.builtin .cap, #[x], #[t]⟩) s H K = wpV ((E.under t).bind (capV (opS s x))) fun v => K v H := rfl
@[simp] theorem evO_append (x y : Operand) (t u : TypeId) : evO E d (.call ⟨.builtin .append, #[x, y], #[t, u]⟩) s H K = wpH (appendS E t (some u) (opS s x) (opS s y) H.next H.skip) K := rfl
@[simp] theorem evO_delete (x y : Operand) (t u : TypeId) : evO E d (.call ⟨.builtin .delete, #[x, y], #[t, u]⟩) s H K = wpH ((deleteS E t (opS s x) (opS s y) H.skip).map fun H' => (undefA, H')) K := rfl
@[simp] theorem evO_value (f : Operand) (args : Array Operand) (ts : Array TypeId) : evO E d (.call ⟨.value f, args, ts⟩) s H K = evCall E d (opS s f) (args.toList.map (opS s)) H K := rfl
@[simp] theorem evCall_func (f : FuncId) (a b args : List AV) : evCall E d (.func f a b) args H K = Go.Ab.Fn E d f (a ++ args ++ b) H.skip K := rfl
end
attribute [simp] wpB_true wpB_false setS_eq
@[simp] theorem wpPut_none (v : AV) (K : Store → Prop) : wpPut nt none (vv v) K (st s) = K (st s) := rfl
@[simp] theorem wpPut_some (k : Nat) (v : AV) (K : Store → Prop) : wpPut nt (some k) (vv v) K (st s) = (k < nt ∧ K (st (setS s k v))) := rfl
@[simp] theorem wantS_none (all : List SOp) : wantS all s none = some true := rfl
@[simp] theorem wantS_some (all : List SOp) (j : Nat) (w : Bool) : wantS all s (some (j, w)) = match (nth all j).bind (·.dst) with | some k => isWanted w (s k) | none => some false := rfl
@[simp] theorem nth_nil {α : Type} (n : Nat) : nth ([] : List α) n = none := rfl
@[simp] theorem nth_zero {α : Type} (x : α) (l : List α) : nth (x :: l) 0 = some x := rfl
@[simp] theorem nth_succ {α : Type} (x : α) (l : List α) (n : Nat) : nth (x :: l) (n + 1) = nth l n := rfl
@[simp] theorem isWanted_bool (w b : Bool) : isWanted w (.bool b) = some (b == w) := by cases b <;> cases w <;> rfl
@[simp] theorem opS_tmp (t : Nat) : opS s (.tmp t) = s t := rfl
@[simp] theorem opS_bool (b : Bool) : opS s (.const (.bool b)) = .bool b := rfl
@[simp] theorem opS_nil : opS s (.const (.slice none 0 0)) = .nilSlice := rfl
@[simp] theorem opS_str (l : Array UInt8) : opS s (.const (.string (ByteArray.mk l))) = .str (l.toList.map (·.toNat)) := rfl
@[simp] theorem opS_func (f : FuncId) : opS s (.func f) = .func f [] [] := rfl
@[simp] theorem ptrOf_ptr (b o : Nat) : ptrOf (.ptr b o) = some (b, o) := rfl
@[simp] theorem cellsOf_cells (c : List AV) (e : TypeId) (o : Bool) : cellsOf (.cells c e o) = some (c, e, o) := rfl
@[simp] theorem mapOf_map (es : List (AV × AV)) (m : Nat) : mapOf (.map es m) = some (es, m) := rfl
@[simp] theorem load1_one (n off : Nat) (c : List AV × TypeId × Bool) : load1 false n off c = nth c.1 off := rfl
@[simp] theorem load1_agg (n off : Nat) (c : List AV × TypeId × Bool) : load1 true n off c = (cut c.1 off n).map .agg := rfl
@[simp] theorem constO_tmp (t : Nat) : constO (.tmp t) = false := rfl
@[simp] theorem constO_const (v : Value) : constO (.const v) = true := rfl
@[simp] theorem pick1_bool (t : Bool) (a b : AV) : pick1 (.bool t) a b = some (cond t a b) := by cases t <;> rfl
@[simp] theorem unA_not (b : Bool) : unA .not (.bool b) = some (.bool (!b)) := rfl
@[simp] theorem tupOf_tup (l : List AV) : tupOf (.tup l) = some l := rfl
@[simp] theorem boxed_agg (e : TypeId) (l : List AV) : boxed e (.agg l) = some (.cells l e false, ptrTo) := rfl
@[simp] theorem ptrTo_eq (n : Nat) : ptrTo n = .ptr n 0 := rfl
@[simp] theorem cells_agg (l : List AV) : (AV.agg l).cells = l := rfl
@[simp] theorem cells_bool (b : Bool) : (AV.bool b).cells = [.bool b] := rfl
@[simp] theorem cells_int (k : IntKind) (n : Int) : (AV.int k n).cells = [.int k n] := rfl
@[simp] theorem cells_str (l : List Nat) : (AV.str l).cells = [.str l] := rfl
@[simp] theorem cells_empty : AV.empty.cells = [.empty] := rfl
@[simp] theorem cells_nilSlice : AV.nilSlice.cells = [.nilSlice] := rfl
@[simp] theorem cells_slice (a b c e f : Nat) : (AV.slice a b c e f).cells = [.slice a b c e f] := rfl
@[simp] theorem cells_map (a : Nat) : (AV.map a).cells = [.map a] := rfl
@[simp] theorem sized_agg (l : List AV) (n : Nat) : sized (.agg l) n = Nat.beq (len l) n := rfl
@[simp] theorem sized_str (l : List Nat) : sized (.str l) 1 = true := rfl
@[simp] theorem sized_int (k : IntKind) (n : Int) : sized (.int k n) 1 = true := rfl
@[simp] theorem sized_bool (b : Bool) : sized (.bool b) 1 = true := rfl
@[simp] theorem sized_empty : sized .empty 1 = true := rfl
@[simp] theorem sized_nilSlice : sized .nilSlice 1 = true := rfl
@[simp] theorem sized_slice (a b c e f : Nat) : sized (.slice a b c e f) 1 = true := rfl
@[simp] theorem sized_map (a : Nat) : sized (.map a) 1 = true := rfl
@[simp] theorem len_nil {α : Type} : len ([] : List α) = 0 := rfl
@[simp] theorem len_cons {α : Type} (x : α) (l : List α) : len (x :: l) = Nat.succ (len l) := rfl
@[simp] theorem scalars_nil : scalars [] = true := rfl
@[simp] theorem scalars_str (l : List Nat) (r : List AV) : scalars (.str l :: r) = scalars r := rfl
@[simp] theorem scalars_int (k : IntKind) (n : Int) (r : List AV) : scalars (.int k n :: r) = scalars r := rfl
@[simp] theorem scalars_bool (b : Bool) (r : List AV) : scalars (.bool b :: r) = scalars r := rfl
@[simp] theorem scalars_empty (r : List AV) : scalars (.empty :: r) = scalars r := rfl
@[simp] theorem scalars_nilSlice (r : List AV) : scalars (.nilSlice :: r) = scalars r := rfl
@[simp] theorem scalars_slice (a b c e f : Nat) (r : List AV) : scalars (.slice a b c e f :: r) = scalars r := rfl
@[simp] theorem scalars_map (a : Nat) (r : List AV) : scalars (.map a :: r) = scalars r := rfl
@[simp] theorem cut_zero {α : Type} (l : List α) (n : Nat) : cut l 0 n = takeE l n := rfl
@[simp] theorem cut_succ {α : Type} (x : α) (l : List α) (o n : Nat) : cut (x :: l) (o + 1) n = cut l o n := rfl
@[simp] theorem takeE_zero {α : Type} (l : List α) : takeE l 0 = some [] := by cases l <;> rfl
@[simp] theorem takeE_succ {α : Type} (x : α) (l : List α) (n : Nat) : takeE (x :: l) (n + 1) = (takeE l n).map (x :: ·) := rfl
@[simp] theorem splice_zero (v c : List AV) : splice v 0 c = over v c := rfl
@[simp] theorem splice_succ (v : List AV) (x : AV) (c : List AV) (n : Nat) : splice v (n + 1) (x :: c) = (splice v n c).map (x :: ·) := rfl
@[simp] theorem over_nil {α : Type} (c : List α) : over [] c = some c := rfl
@[simp] theorem over_cons {α : Type} (x y : α) (v c : List α) : over (x :: v) (y :: c) = (over v c).map (x :: ·) := rfl

/-! numbers -/
theorem bin_lss (t : TypeId) (c : Bool) (k : IntKind) (a b : Nat) : binA E t c .lss (.int k (.ofNat a)) (.int k (.ofNat b)) = some (.bool (decide (a < b))) := by
  show (if k = k then some (AV.bool (Nat.blt a b)) else none) = _
  rw [if_pos rfl]
  cases h : Nat.blt a b with
  | true => rw [decide_eq_true (show a < b from Nat.le_of_ble_eq_true h)]
  | false => rw [decide_eq_false fun hl => by rw [show Nat.blt a b = true from Nat.ble_eq_true_of_le hl] at h; cases h]
theorem bin_leq (t : TypeId) (c : Bool) (k : IntKind) (a b : Nat) : binA E t c .leq (.int k (.ofNat a)) (.int k (.ofNat b)) = some (.bool (!decide (b < a))) := by
  have h : (if k = k then some (AV.bool (Nat.blt b a)) else none) = some (.bool (decide (b < a))) := bin_lss (E := E) t c k b a
  show (if k = k then some (AV.bool (!(Nat.blt b a))) else none) = _
  rw [if_pos rfl] at h ⊢
  simp only [Option.some.injEq, AV.bool.injEq] at h ⊢
  rw [h]
theorem natBeq_decide (a b : Nat) : Nat.beq a b = decide (a = b) := by
  cases h : Nat.beq a b with
  | true => rw [decide_eq_true (Nat.eq_of_beq_eq_true h)]
  | false => rw [decide_eq_false (Nat.ne_of_beq_eq_false h)]
section
variable (t : TypeId) (c : Bool) (a b : Nat)
@[simp] theorem n_lss : binA E t c .lss (nI a) (nI b) = some (.bool (decide (a < b))) := bin_lss t c .i64 a b
@[simp] theorem n_gtr : binA E t c .gtr (nI a) (nI b) = some (.bool (decide (b < a))) := bin_lss (E := E) t c .i64 b a
@[simp] theorem n_leq : binA E t c .leq (nI a) (nI b) = some (.bool (!decide (b < a))) := bin_leq t c .i64 a b
@[simp] theorem n_geq : binA E t c .geq (nI a) (nI b) = some (.bool (!decide (a < b))) := bin_leq (E := E) t c .i64 b a
@[simp] theorem n_eql : binA E t c .eql (nI a) (nI b) = some (.bool (decide (a = b))) := by
  show some (AV.bool (Nat.beq a b)) = _
  rw [natBeq_decide]
@[simp] theorem n_neq : binA E t c .neq (nI a) (nI b) = some (.bool (!decide (a = b))) := by
  show some (AV.bool (!Nat.beq a b)) = _
  rw [natBeq_decide]
theorem n_add (h : a + b < 9223372036854775808) : binA E t c .add (nI a) (nI b) = some (nI (a + b)) := by
  show some (wrapN .i64 (a + b)) = _
  unfold wrapN
  rw [show Nat.blt (a + b) (lim .i64) = true from Nat.ble_eq_true_of_le h]; rfl
theorem n_sub (h : b ≤ a) (h2 : a < 9223372036854775808) : binA E t c .sub (nI a) (nI b) = some (nI (a - b)) := by
  show some (wrapA .i64 (Int.sub (.ofNat a) (.ofNat b))) = _
  rw [show Int.sub (.ofNat a) (.ofNat b) = .ofNat (a - b) from (Int.ofNat_sub h).symm]
  show some (wrapN .i64 (a - b)) = _
  unfold wrapN
  rw [show Nat.blt (a - b) (lim .i64) = true from Nat.ble_eq_true_of_le (show a - b < 9223372036854775808 by omega)]; rfl
theorem n_mod (h : b ≠ 0) : binA E t c .rem (nI a) (nI b) = some (nI (a % b)) := by
  cases b with
  | zero => exact absurd rfl h
  | succ b => rfl
end
@[simp] theorem opS_nat (n : Nat) : opS s (.const (.int .i64 (no_index (OfNat.ofNat n)))) = nI n := rfl
@[simp] theorem cells_n (n : Nat) : (nI n).cells = [nI n] := rfl
@[simp] theorem asN_n (n : Nat) : asN (nI n) = some n := rfl
@[simp] theorem sized_n (n : Nat) : sized (nI n) 1 = true := rfl
@[simp] theorem scalars_n (n : Nat) (r : List AV) : scalars (nI n :: r) = scalars r := rfl
@[simp] theorem len_slice (e b o n c p : Nat) : lenV (.slice b o n c p) (.slice e) = some (nI n) := rfl
@[simp] theorem len_nilSl (e : Nat) : lenV .nilSlice (.slice e) = some (nI 0) := rfl
@[simp] theorem lenS_slice {t e : TypeId} (x : AV) (h : E.under t = some (.slice e)) : lenS E t x = lenV x (.slice e) := by unfold lenS; rw [h]
theorem index_slice {t e z b off n c p i : Nat} (hu : E.under t = some (.slice e)) (hs : E.size e = some z) (h : i < n) : indexAddrA E t (.slice b off n c p) (nI i) = some (.ptr b (off + i * z)) := by
  unfold indexAddrA
  rw [hu]
  show addrAt b off i n e E = _
  unfold addrAt
  rw [show Nat.blt i n = true from Nat.ble_eq_true_of_le h, hs]; rfl
theorem load_one {t b off : Nat} {c : List AV} {e : TypeId} {o : Bool} {v : AV} (hg : E.isAgg t = some false) {z : Nat} (hs : E.size t = some z) (hb : H.get b = some (.cells c e o)) (hv : nth c off = some v) : loadS E t H (b, off) = some v := by
  unfold loadS Hp.rcells; rw [hg, hs, hb]; exact hv
theorem load_agg {t b off z : Nat} {c v : List AV} {e : TypeId} {o : Bool} (hg : E.isAgg t = some true) (hs : E.size t = some z) (hb : H.get b = some (.cells c e o)) (hv : cut c off z = some v) : loadS E t H (b, off) = some (.agg v) := by
  unfold loadS Hp.rcells; rw [hg, hs, hb]
  show (cut c off z).map _ = _
  rw [hv]; rfl
theorem bool_rec_true {α : Type} (a b : α) : (Bool.rec a b true : α) = b := rfl
theorem bool_rec_false {α : Type} (a b : α) : (Bool.rec a b false : α) = a := rfl
theorem natsEq_decide : ∀ a b : List Nat, natsEq a b = decide (a = b)
  | [], [] => rfl
  | [], _ :: _ => rfl
  | _ :: _, [] => rfl
  | a :: x, b :: y => by
    unfold natsEq
    rw [natsEq_decide x y, natBeq_decide]
    by_cases h : a = b <;> by_cases h2 : x = y <;> simp [h, h2]
@[simp] theorem bin_eqs (t : TypeId) (c : Bool) (a b : List Nat) : binA E t c .eql (.str a) (.str b) = some (.bool (decide (a = b))) := by
  show some (AV.bool (natsEq a b)) = _; rw [natsEq_decide]
@[simp] theorem bin_nes (t : TypeId) (c : Bool) (a b : List Nat) : binA E t c .neq (.str a) (.str b) = some (.bool (!decide (a = b))) := by
  show some (AV.bool (!natsEq a b)) = _; rw [natsEq_decide]
end

/-! maps whose keys are texts -/
abbrev MP := List (List Nat × AV)
def toEs : MP → List (AV × AV)
  | [] => []
  | (a, v) :: r => (.str a, v) :: toEs r
def lk (k : List Nat) : MP → Option AV
  | [] => none
  | (a, v) :: r => if k = a then some v else lk k r
def rm (k : List Nat) : MP → MP
  | [] => []
  | (a, v) :: r => if k = a then r else (a, v) :: rm k r
theorem lookup_es (k : List Nat) : ∀ m, lookupE (.str k) (toEs m) = some (lk k m)
  | [] => rfl
  | (a, v) :: r => by
    show (match some (natsEq k a) with | some true => some (some v) | some false => lookupE (.str k) (toEs r) | none => none) = _
    rw [natsEq_decide]
    by_cases h : k = a
    · simp [h, lk]
    · simp [h, lk, lookup_es k r]
theorem remove_es (k : List Nat) : ∀ m, removeE (.str k) (toEs m) = toEs (rm k m)
  | [] => rfl
  | (a, v) :: r => by
    show (bif natsEq k a then toEs r else (.str a, v) :: removeE (.str k) (toEs r)) = _
    rw [natsEq_decide]
    by_cases h : k = a
    · simp [h, rm]
    · simp [h, rm, remove_es k r, toEs]
theorem toEs_append : ∀ m n, toEs (m ++ n) = toEs m ++ toEs n
  | [], _ => rfl
  | (a, v) :: r, n => by simp [toEs, toEs_append r n]
theorem rm_none (k : List Nat) : ∀ m, lk k m = none → rm k m = m
  | [], _ => rfl
  | (a, v) :: r, h => by
    simp only [lk] at h
    split at h
    · cases h
    · rename_i hn; simp [rm, hn, rm_none k r h]

theorem delete_some {E : Env} {t kt vt M : Nat} {k : List Nat} {m : MP} {mods : Nat} {H : Hp} (hm : E.mapT t = some (kt, vt)) (hk : keyOk E kt (.str k) = true) (hg : H.get M = some (.map (toEs m) mods)) :
    ∃ H', deleteS E t (.map M) (.str k) H = some H' ∧ H'.next = H.next ∧ (∀ b, b ≠ M → H'.get b = H.get b) ∧ ∃ mods', H'.get M = some (.map (toEs (rm k m)) mods') := by
  unfold deleteS
  rw [hm]
  simp only [hk, cond_true]
  unfold deleteMS Hp.mapAt
  rw [hg]
  simp only [Option.bind_some, mapOf_map, lookup_es]
  cases hl : lk k m with
  | none => exact ⟨H, rfl, rfl, fun _ _ => rfl, mods, by rw [hg, rm_none k m hl]⟩
  | some v => exact ⟨_, rfl, rfl, fun b hb => Hp.put_get_ne _ _ _ _ hb, _, by rw [Hp.put_get_eq, remove_es]⟩
/-- a slice of texts -/
inductive StrSl (H : Hp) : AV → List (List Nat) → Prop
  | nil : StrSl H .nilSlice []
  | mk {b op : Nat} {o : Bool} {l : List (List Nat)} : H.get b = some (.cells (l.map .str) 9 o) → StrSl H (.slice b 0 l.length l.length op) l

/-- a slice of variables, as terms -/
inductive TmSl (H : Hp) : AV → List (List Nat) → Prop
  | nil : TmSl H .nilSlice []
  | mk {b cap op : Nat} {c : List AV} {o : Bool} {l : List (List Nat)} : H.get b = some (.cells c 51 o) → (∀ i x, l[i]? = some x → cut c (i * 2) 2 = some [nI 1, .str x]) → TmSl H (.slice b 0 l.length cap op) l
/-- the block of a slice -/
def Blk (P : Nat → Prop) : AV → Prop
  | .slice b _ _ _ _ => P b
  | _ => True
theorem StrSl.move {H H' : Hp} {x : AV} {l : List (List Nat)} (h : StrSl H x l) (hb : Blk (fun b => H'.get b = H.get b) x) : StrSl H' x l := by
  cases h with
  | nil => exact .nil
  | mk h1 => exact .mk (Eq.trans hb h1)
theorem TmSl.move {H H' : Hp} {x : AV} {l : List (List Nat)} (h : TmSl H x l) (hb : Blk (fun b => H'.get b = H.get b) x) : TmSl H' x l := by
  cases h with
  | nil => exact .nil
  | mk h1 h2 => exact .mk (Eq.trans hb h1) h2
theorem Blk.mono {P Q : Nat → Prop} {x : AV} (h : Blk P x) (hpq : ∀ b, P b → Q b) : Blk Q x := by
  cases x <;> first | exact hpq _ h | trivial
theorem TmSl.len {E : Env} {H : Hp} {x : AV} {l : List (List Nat)} {t e : Nat} (h : TmSl H x l) (hu : E.under t = some (.slice e)) : lenS E t x = some (nI l.length) := by
  rw [lenS_slice x hu]; cases h <;> rfl
theorem StrSl.len {E : Env} {H : Hp} {x : AV} {l : List (List Nat)} {t e : Nat} (h : StrSl H x l) (hu : E.under t = some (.slice e)) : lenS E t x = some (nI l.length) := by
  rw [lenS_slice x hu]; cases h <;> rfl
/-- what a variable becomes -/
def thingOf (y : List Nat) : AV := .agg [nI 1, .str y, nI 0, nI 0]
def thM : PM (List Nat) → MP
  | [] => []
  | (a, v) :: r => (a, thingOf v) :: thM r
theorem lk_th (k : List Nat) : ∀ p, lk k (thM p) = (plk k p).map thingOf
  | [] => rfl
  | (a, v) :: r => by
    simp only [thM, lk, plk]
    split
    · rfl
    · exact lk_th k r
theorem rm_th (k : List Nat) : ∀ p, rm k (thM p) = thM (prm k p)
  | [] => rfl
  | (a, v) :: r => by
    simp only [thM, rm, prm]
    split
    · rfl
    · simp only [thM, rm_th k r]
theorem thM_append : ∀ p q, thM (p ++ q) = thM p ++ thM q
  | [], _ => rfl
  | (a, v) :: r, q => by simp [thM, thM_append r q]
/-- a map of variables -/
def MapAt (H : Hp) (M : Nat) (p : PM (List Nat)) : Prop := ∃ mods, H.get M = some (.map (toEs (thM p)) mods)

theorem cut_all {α : Type} (l : List α) : cut l 0 l.length = some l := by
  induction l with
  | nil => rfl
  | cons x l ih => rw [List.length_cons, cut_zero, takeE_succ, ← cut_zero, ih]; rfl
theorem scalars_strs : ∀ l : List (List Nat), scalars (l.map .str) = true
  | [] => rfl
  | _ :: l => scalars_strs l
theorem append_str {E : Env} {H : Hp} {f : AV} {fr : List (List Nat)} {x : List Nat} {nb id t op1 : Nat} {o : Bool} {ti : TypeInfo} (he : E.elem t = some 9) (hti : E.tt.get none 9 = some ti) (hsz : ti.size = 1) (hby : ti.bytes = 16) (hz : zeroOk E 9 1 = true)
    (hn : E.isNum (some t) = some false) (hf : StrSl H f fr) (hnb : H.get nb = some (.cells [.str x] 9 o)) (hfr : fr.length < 1000) (hid : Blk (fun b => b ≠ id) f) :
    ∃ f' H', appendS E t (some t) f (.slice nb 0 1 1 op1) id H = some (f', H') ∧ H'.next = H.next ∧ StrSl H' f' (fr ++ [x]) ∧ (∃ op', f' = .slice id 0 (fr ++ [x]).length (fr ++ [x]).length op') ∧ (∀ c, c ≠ id → Blk (fun b => c ≠ b) f → H'.get c = H.get c) := by
  have hnew : newCellsS E 9 1 false (.slice nb 0 1 1 op1) H = some (1, [.str x]) := by
    unfold newCellsS
    show (some 1).bind (fun n => (firstS 1 n H (.slice nb 0 1 1 op1)).map fun l => (n, l)) = _
    show (firstS 1 1 H (.slice nb 0 1 1 op1)).map _ = _
    show (((H.get nb).bind cellsOf).bind fun c => cut c.1 0 (Nat.mul 1 1)).map _ = _
    rw [hnb]; rfl
  have hb : ∀ m, m < 1001 → bears m 16 = true := by
    intro m hm
    unfold bears
    rw [show Nat.ble (Nat.mul m 16) 140737488355328 = true from Nat.ble_eq_true_of_le (show m * 16 ≤ 140737488355328 by omega), Nat.ble_eq_true_of_le (show m ≤ 1099511627776 by omega)]; rfl
  have happ : ∀ n1, lenSl f = n1 → n1 < 1000 → appendS E t (some t) f (.slice nb 0 1 1 op1) id H = appendToS f 1 9 id H 1 [.str x] := by
    intro n1 h1 h2
    unfold appendS
    rw [he]; simp only [hti, hn, hsz, hby, hnew, h1]
    rw [hb (Nat.add n1 1) (show n1 + 1 < 1001 by omega), hz]; rfl
  cases hf with
  | nil =>
    refine ⟨_, _, happ 0 rfl (by omega), rfl, ?_, ⟨_, rfl⟩, fun c hc _ => Hp.put_get_ne _ _ _ _ hc⟩
    exact StrSl.mk (l := [x]) (Hp.put_get_eq _ _ _)
  | @mk b op o2 _ h1 =>
    refine ⟨.slice id 0 (fr ++ [x]).length (fr ++ [x]).length 2, bif Nat.beq op 0 then H.put id (.cells ((fr ++ [x]).map .str) 9 true) else (H.put id (.cells ((fr ++ [x]).map .str) 9 true)).drop b, ?_, ?_, ?_, ⟨_, rfl⟩, ?_⟩
    · rw [happ fr.length rfl hfr]
      unfold appendToS
      simp only []
      have : Nat.ble (Nat.add fr.length 1) fr.length = false := by
        cases h : Nat.ble (Nat.add fr.length 1) fr.length with
        | false => rfl
        | true => have := Nat.le_of_ble_eq_true h; exact absurd this (by show ¬ (fr.length + 1 ≤ fr.length); omega)
      rw [this]
      unfold Hp.cells
      rw [h1]
      simp only [cond_false, Option.bind_some, cellsOf_cells]
      unfold appendNewS
      have hcut : cut (fr.map AV.str) 0 (Nat.mul fr.length 1) = some (fr.map AV.str) := by
        have := cut_all (fr.map AV.str)
        rw [List.length_map] at this
        rw [show Nat.mul fr.length 1 = fr.length from Nat.mul_one _]; exact this
      rw [hcut]
      have hsc : scalars [AV.str x] = true := rfl
      simp only [hsc, show Nat.beq 9 9 = true from rfl, Bool.and_true, Bool.or_true, cond_true, List.map_append, List.map_cons, List.map_nil, List.length_append, List.length_cons, List.length_nil]
    · cases Nat.beq op 0 <;> rfl
    · have hib : b ≠ id := hid
      have hput : (H.put id (.cells ((fr ++ [x]).map .str) 9 true)).get id = some (.cells ((fr ++ [x]).map .str) 9 true) := Hp.put_get_eq _ _ _
      cases Nat.beq op 0
      · exact .mk ((Hp.drop_get_ne _ _ _ (Ne.symm hib)).trans hput)
      · exact .mk hput
    · intro c hc hcb
      have hcb : c ≠ b := hcb
      cases Nat.beq op 0
      · exact (Hp.drop_get_ne _ _ _ hcb).trans (Hp.put_get_ne _ _ _ _ hc)
      · exact Hp.put_get_ne _ _ _ _ hc
theorem TmSl.ne {H : Hp} {x : AV} {l : List (List Nat)} {M : Nat} {p : PM (List Nat)} (h : TmSl H x l) (hm : MapAt H M p) : Blk (fun b => b ≠ M) x := by
  obtain ⟨mods, hm⟩ := hm
  cases h with
  | nil => trivial
  | mk h1 _ => intro e; rw [e, hm] at h1; cases h1
theorem Blk.and {P Q : Nat → Prop} {x : AV} (h : Blk P x) (g : Blk Q x) : Blk (fun b => P b ∧ Q b) x := by
  cases x <;> first | exact ⟨h, g⟩ | trivial
theorem store_at {E : Env} {H : Hp} {t n b off : Nat} {c c' : List AV} {e : TypeId} {o : Bool} {v : AV} (hs : E.size t = some n) (hb : H.get b = some (.cells c e o)) (hv : (sized v n && scalars v.cells) = true) (hsp : splice v.cells off c = some c') :
    storeS E t H v (b, off) = some (H.put b (.cells c' e o)) := by
  unfold storeS Hp.cells; rw [hs, hb]
  simp only [Option.bind_some, cellsOf_cells, hv, hsp]; rfl
theorem G.genH {E : Env} {d : Nat} {fc : FC} {td : List Item} {s : Store} {H : Hp} {Q : AV → Hp → Prop} (h : ∀ H1, H1 = H → G E d fc td s H1 Q) : G E d fc td s H Q := h H rfl
theorem G.gen {E : Env} {d : Nat} {fc : FC} {td : List Item} {s : Store} {H : Hp} {Q : AV → Hp → Prop} (h : ∀ H1 s1, H1 = H → s1 = s → G E d fc td s1 H1 Q) : G E d fc td s H Q := h H s rfl rfl
end
end Go.Ab
end
section
namespace Go.Ab
set_option linter.unusedVariables false
noncomputable section
section
variable {E : Env} {d nt base : Nat} {all : List SOp} {L : Store → Hp → Prop} {K : AV → DSt → Prop} {s : Store} {H : Hp} {e a : List Nat} {sn : List Hp} {rd : List (Nat × Nat × AObj)} {i m : Nat} {dst : Option Nat} {op : Op} {r : List TOp}
/-- a state at hand -/
def sd (y : DSt) : DSt := y
@[simp] theorem wpD_nil : wpD E d nt base all [] L (sd ⟨s, H, e, a, sn, rd⟩) = L s H := rfl
@[simp] theorem wpD_none : wpD E d nt base all (⟨i, ⟨dst, op, none⟩, m⟩ :: r) L (sd ⟨s, H, e, a, sn, rd⟩) = evD E d base i m op ⟨s, H, e, a, sn, rd⟩ fun v y' => dput nt dst v (fun y2 => wpD E d nt base all r L y2) y' := rfl
@[simp] theorem wpD_some (g : Nat × Bool) : wpD E d nt base all (⟨i, ⟨dst, op, some g⟩, m⟩ :: r) L (sd ⟨s, H, e, a, sn, rd⟩) =
    wpB (wantS all s (some g)) (evD E d base i m op ⟨s, H, e, a, sn, rd⟩ fun v y' => dput nt dst v (fun y2 => wpD E d nt base all r L y2) y') (dput nt dst (vv undefA) (fun y2 => wpD E d nt base all r L y2) (sd ⟨s, H, e, a, sn, rd⟩)) := rfl
@[simp] theorem dput_none (v : AV) (F : DSt → Prop) : dput nt none (vv v) F (sd ⟨s, H, e, a, sn, rd⟩) = F (sd ⟨s, H, e, a, sn, rd⟩) := rfl
@[simp] theorem dput_some (k : Nat) (v : AV) (F : DSt → Prop) : dput nt (some k) (vv v) F (sd ⟨s, H, e, a, sn, rd⟩) = (k < nt ∧ F (sd ⟨setS s k v, H, e, a, sn, rd⟩)) := rfl
@[simp] theorem evD_move (x : Operand) : evD E d base i m (.move x) ⟨s, H, e, a, sn, rd⟩ K = K (vv (opS s x)) (sd ⟨s, H, e, a, sn, rd⟩) := rfl
@[simp] theorem evD_assign (x : Operand) : evD E d base i m (.assign x) ⟨s, H, e, a, sn, rd⟩ K = K (vv (opS s x)) (sd ⟨s, H, e, a, sn, rd⟩) := rfl
@[simp] theorem evD_pick (c x y : Operand) : evD E d base i m (.pick c x y) ⟨s, H, e, a, sn, rd⟩ K = wpV (pick1 (opS s c) (opS s x) (opS s y)) fun v => K v (sd ⟨s, H, e, a, sn, rd⟩) := rfl
@[simp] theorem evD_build (t : TypeId) (ps : Array (Nat × Operand)) : evD E d base i m (.build t ps) ⟨s, H, e, a, sn, rd⟩ K = wpV (buildS E s t ps.toList) fun v => K v (sd ⟨s, H, e, a, sn, rd⟩) := rfl
@[simp] theorem evD_binOp (b : BinOp) (t u : TypeId) (x y : Operand) : evD E d base i m (.binOp b t x y u) ⟨s, H, e, a, sn, rd⟩ K = wpV (binA E t (constO x || constO y) b (opS s x) (opS s y)) fun v => K v (sd ⟨s, H, e, a, sn, rd⟩) := rfl
@[simp] theorem evD_slice (t : TypeId) (x : Operand) (lo hi mx : Option Operand) : evD E d base i m (.slice t x lo hi mx) ⟨s, H, e, a, sn, rd⟩ K = wpV (sliceA E t (opS s x) (lo.map (opS s)) (hi.map (opS s)) (mx.map (opS s))) fun v => K v (sd ⟨s, H, e, a, sn, rd⟩) := rfl
@[simp] theorem evD_fieldAddr (t : TypeId) (x : Operand) (f : Nat) : evD E d base i m (.fieldAddr t x f) ⟨s, H, e, a, sn, rd⟩ K = wpV (fieldAddrS E t (opS s x) f) fun v => K v (sd ⟨s, H, e, a, sn, rd⟩) := rfl
@[simp] theorem evD_indexAddr (t : TypeId) (x k : Operand) : evD E d base i m (.indexAddr t x k) ⟨s, H, e, a, sn, rd⟩ K = wpV (indexAddrA E t (opS s x) (opS s k)) fun v => K v (sd ⟨s, H, e, a, sn, rd⟩) := rfl
@[simp] theorem evD_extract (x : Operand) (k : Nat) : evD E d base i m (.extract x k) ⟨s, H, e, a, sn, rd⟩ K = wpV ((tupOf (opS s x)).bind fun l => nth l k) fun v => K v (sd ⟨s, H, e, a, sn, rd⟩) := rfl
@[simp] theorem evD_len (x : Operand) (t : TypeId) : evD E d base i m (.call ⟨.builtin .len, #[x], #[t]⟩) ⟨s, H, e, a, sn, rd⟩ K = wpV (lenS E t (opS s x)) fun v => K v (sd ⟨s, H, e, a, sn, rd⟩) := rfl
/-- a read of a block -/
def rdB (H : Hp) (e : List Nat) (sn : List Hp) (i m : Nat) (b : Option Nat) (K : List (Nat × Nat × AObj) → Prop) (rd : List (Nat × Nat × AObj)) : Prop :=
  match b with
  | some b => (match H.get b with
    | some o => readOkS (countLate m e) (sn.map Hp.get) b o = true ∧ K ((i, b, o) :: rd)
    | none => False)
  | none => K rd
theorem rdB_some {b : Nat} {o : AObj} (F : List (Nat × Nat × AObj) → Prop) (h : H.get b = some o) : rdB H e sn i m (some b) F rd = (readOkS (countLate m e) (sn.map Hp.get) b o = true ∧ F ((i, b, o) :: rd)) := by unfold rdB; simp only [h]
theorem rdD_eq (x : AV) (v : Option AV) : rdD i m x v ⟨s, H, e, a, sn, rd⟩ K = wpV v fun v => rdB H e sn i m (addrOf x) (fun rd => K v (sd ⟨s, H, e, a, sn, rd⟩)) rd := by
  unfold rdD rdB
  congr 1
@[simp] theorem evD_load (t : TypeId) (x : Operand) : evD E d base i m (.load t x) ⟨s, H, e, a, sn, rd⟩ K = wpV ((ptrOf (opS s x)).bind (loadS E t H)) fun v => rdB H e sn i m (addrOf (opS s x)) (fun rd => K v (sd ⟨s, H, e, a, sn, rd⟩)) rd := rdD_eq ..
@[simp] theorem addrOf_ptr (b o : Nat) : addrOf (.ptr b o) = some b := rfl
/-- the first state is the only one, and nothing was changed -/
theorem readOk_first {b : Nat} {o : AObj} (h : H.get b = some o) (ho : sameO o o = true) : readOkS 0 [H.get] b o = true := by
  show ([H.get].all fun hs => sameAt o (hs b)) = true
  simp only [List.all_cons, List.all_nil, Bool.and_true, h]
  exact ho
@[simp] theorem countLate_nil : countLate m [] = 0 := rfl
/-- what a change comes to -/
def fuB (m : Nat) (rd : List (Nat × Nat × AObj)) (H' : Hp) (F : Prop) : Prop := readsS m rd H' = true ∧ F
@[simp] theorem evD_call (f : FuncId) (args : Array Operand) (ts : Array TypeId) : evD E d base i m (.call ⟨.value (.func f), args, ts⟩) ⟨s, H, e, a, sn, rd⟩ K = ((e.all (bitAt m) && a.all (bitAt m)) = true ∧
    Go.Ab.Fn E d f (args.toList.map (opS s)) H fun v H' => fuB m rd H' (K v (sd ⟨s, H', i :: e, a, H' :: sn, rd⟩))) := by
  show ((e.all (bitAt m) && a.all (bitAt m)) = true ∧ Go.Ab.Fn E d f ([] ++ args.toList.map (opS s) ++ []) H _) = _
  rw [List.nil_append, List.append_nil]; rfl
@[simp] theorem all_nil_and {p : Nat → Bool} : (([] : List Nat).all p && ([] : List Nat).all p) = true := rfl
theorem G.drawn {fc : FC} {td : List Item} {Q : AV → Hp → Prop} {id : Nat} {ops : Array Oper} {l : List SOp} {t : List TOp} {k : Nat} (ho : E.ord fc.fn id = []) (hl : ops.toList.map sop = l) (ht : (trs ops.toList 0 (.full 0 8)).map top = t) (hk : l.length = k)
    (w : wpD E d fc.nt H.next l t (fun s H => G E d fc td s H Q) (sd ⟨s, ⟨H.get, H.next + k⟩, [], [], [H], []⟩)) : G E d fc (.code (.region id ops true) :: td) s H Q := G.draw ho hl ht hk w
theorem natBeq_refl (n : Nat) : Nat.beq n n = true := by rw [natBeq_decide]; simp
theorem sameO_cells {c : List AV} {t : TypeId} {o : Bool} (h : AV.beqL c c = true) : sameO (.cells c t o) (.cells c t o) = true := by
  show (AV.beqL c c && Nat.beq t t && boolEq o o) = true
  rw [h, natBeq_refl]; cases o <;> rfl
theorem beqL_cons {x : AV} {c : List AV} (h : AV.beq x x = true) (g : AV.beqL c c = true) : AV.beqL (x :: c) (x :: c) = true := by
  rw [AV.beqL, h, g]; rfl
theorem beq_slice (b o n c p : Nat) : AV.beq (.slice b o n c p) (.slice b o n c p) = true := by
  rw [AV.beq, natBeq_refl, natBeq_refl, natBeq_refl, natBeq_refl, natBeq_refl]; rfl
theorem beq_str (l : List Nat) : AV.beq (.str l) (.str l) = true := by rw [AV.beq, natsEq_decide]; simp
theorem reads_ahead {m : Nat} {l : List (Nat × Nat × AObj)} {H : Hp} (h : ∀ r, r ∈ l → bitAt m r.1 = true) : readsS m l H = true := by
  unfold readsS
  rw [List.all_eq_true]
  intro r hr
  rw [h r hr]; rfl
end
end
end Go.Ab
end
