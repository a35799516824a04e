/- Numbers, texts, '==': the abstract machine's words are the model's. '==' beside numbers and texts; operations that give a value. Operations that give a value and leave the heap alone. Conditions: none. -/
import Derived.Test.YtbclmkfibgmgdaaGreatDoorRdUA
import Derived.Lib.Strings
import Derived.Laws.Strings
import Derived.Laws.Entries
section
namespace Go.Ab

theorem wrap_lim (k : IntKind) (n : Nat) (h : n < lim k) : k.wrap (n : Int) = n := by
  cases k <;> simp only [lim] at h <;> simp [IntKind.wrap, IntKind.bits, IntKind.signed] <;> omega

theorem blt_iff (a b : Nat) : Nat.blt a b = true ↔ a < b := by simp [Nat.blt_eq]

theorem wrapA_eq (k : IntKind) (n : Int) : wrapA k n = .int k (k.wrap n) := by
  cases n with
  | ofNat m =>
    show (Bool.rec (AV.int k (k.wrap (.ofNat m))) (AV.int k (.ofNat m)) (Nat.blt m (lim k)) : AV) = _
    cases hb : Nat.blt m (lim k) with
    | false => rfl
    | true =>
      have := wrap_lim k m ((blt_iff _ _).1 hb)
      show AV.int k (.ofNat m) = _
      rw [Int.ofNat_eq_natCast, this]
  | negSucc m => rfl

theorem intLt_eq (a b : Int) : intLt a b = decide (a < b) := by
  cases a <;> cases b <;> simp only [intLt]
  · rename_i m n
    rw [Bool.eq_iff_iff, blt_iff]; simp
  · rename_i m n
    have : ¬ ((m : Int) < Int.negSucc n) := by omega
    simp [this]
  · rename_i m n
    have : (Int.negSucc m < (n : Int)) := by omega
    simp [this]
  · rename_i m n
    rw [Bool.eq_iff_iff, blt_iff]; simp; omega

theorem divA_ok {k : IntKind} {a b : Int} {v : AV} (h : divA k a b = some v) : b ≠ 0 ∧ v = .int k (k.wrap (a.tdiv b)) := by
  unfold divA at h
  split at h
  · rename_i a' b'
    simp only [Option.some.injEq] at h
    refine ⟨by simp; omega, ?_⟩
    rw [← h]; rfl
  · cases hz : intEq b 0 with
    | true => simp [hz] at h
    | false =>
      have hb : b ≠ 0 := fun e => by rw [(intEq_iff b 0).2 e] at hz; cases hz
      simp [hz] at h; exact ⟨hb, h.symm⟩

theorem modA_ok {k : IntKind} {a b : Int} {v : AV} (h : modA k a b = some v) : b ≠ 0 ∧ v = .int k (a.tmod b) := by
  unfold modA at h
  split at h
  · rename_i a' b'
    simp only [Option.some.injEq] at h
    refine ⟨by simp; omega, ?_⟩
    rw [← h]; rfl
  · cases hz : intEq b 0 with
    | true => simp [hz] at h
    | false =>
      have hb : b ≠ 0 := fun e => by rw [(intEq_iff b 0).2 e] at hz; cases hz
      simp [hz] at h; exact ⟨hb, h.symm⟩

def isBits : BinOp → Bool
  | .and | .or | .xor | .andNot => true
  | _ => false

theorem lim_le (k : IntKind) : lim k ≤ 2 ^ k.bits := by cases k <;> simp [lim, IntKind.bits]
theorem ofInt_nat (k : IntKind) (n : Nat) (h : n < lim k) : (BitVec.ofInt k.bits (n : Int)).toNat = n := by
  have := lim_le k
  simp only [BitVec.toNat_ofInt]
  have h2 : ((n : Int) % ((2 ^ k.bits : Nat) : Int)).toNat = n := by
    have : ((n : Int) % ((2 ^ k.bits : Nat) : Int)) = ((n % 2 ^ k.bits : Nat) : Int) := by simp
    rw [this, Nat.mod_eq_of_lt (by omega)]; simp
  exact h2

theorem lim_pow (k : IntKind) : ∃ e, lim k = 2 ^ e := by
  cases k
  · exact ⟨7, rfl⟩
  · exact ⟨15, rfl⟩
  · exact ⟨31, rfl⟩
  · exact ⟨63, rfl⟩
  · exact ⟨8, rfl⟩
  · exact ⟨16, rfl⟩
  · exact ⟨32, rfl⟩
  · exact ⟨64, rfl⟩

theorem bitsA_ok {op : BinOp} {k : IntKind} {a b : Int} {v : AV} (h : bitsA op k a b = some v) (w : World) (P : Program) :
    ∃ n, v = .int k n ∧ isBits op = true ∧ (Op.intBits op k a b).run P w = .ok (.int k n) w := by
  unfold bitsA at h
  split at h <;> simp only [Option.some.injEq, reduceCtorEq] at h <;> subst h <;> exact ⟨_, rfl, rfl, rfl⟩

theorem bitsN_ok {op : BinOp} {k : IntKind} {a b : Nat} {v : AV} (h : bitsN op k a b = some v) (ha : a < lim k) (hb : b < lim k) (w : World) (P : Program) :
    ∃ n, v = .int k n ∧ isBits op = true ∧ (Op.intBits op k a b).run P w = .ok (.int k n) w := by
  obtain ⟨e, he⟩ := lim_pow k
  unfold bitsN at h
  split at h
  · simp only [Option.some.injEq] at h; subst h
    refine ⟨_, rfl, rfl, ?_⟩
    have h1 : (BitVec.ofInt k.bits (a : Int) &&& BitVec.ofInt k.bits (b : Int)).toNat = Nat.land a b := by
      rw [BitVec.toNat_and, ofInt_nat k a ha, ofInt_nat k b hb]; rfl
    have h2 : Nat.land a b < lim k := by rw [he] at hb ⊢; exact Nat.and_lt_two_pow a hb
    show Result.ok (Value.int k (k.wrap ((BitVec.ofInt k.bits (a : Int) &&& BitVec.ofInt k.bits (b : Int)).toNat : Int))) w = _
    rw [h1, wrap_lim k _ h2]; rfl
  · simp only [Option.some.injEq] at h; subst h
    refine ⟨_, rfl, rfl, ?_⟩
    have h1 : (BitVec.ofInt k.bits (a : Int) ||| BitVec.ofInt k.bits (b : Int)).toNat = Nat.lor a b := by
      rw [BitVec.toNat_or, ofInt_nat k a ha, ofInt_nat k b hb]; rfl
    have h2 : Nat.lor a b < lim k := by rw [he] at ha hb ⊢; exact Nat.or_lt_two_pow ha hb
    show Result.ok (Value.int k (k.wrap ((BitVec.ofInt k.bits (a : Int) ||| BitVec.ofInt k.bits (b : Int)).toNat : Int))) w = _
    rw [h1, wrap_lim k _ h2]; rfl
  · simp only [Option.some.injEq] at h; subst h
    refine ⟨_, rfl, rfl, ?_⟩
    have h1 : (BitVec.ofInt k.bits (a : Int) ^^^ BitVec.ofInt k.bits (b : Int)).toNat = Nat.xor a b := by
      rw [BitVec.toNat_xor, ofInt_nat k a ha, ofInt_nat k b hb]; rfl
    have h2 : Nat.xor a b < lim k := by rw [he] at ha hb ⊢; exact Nat.xor_lt_two_pow ha hb
    show Result.ok (Value.int k (k.wrap ((BitVec.ofInt k.bits (a : Int) ^^^ BitVec.ofInt k.bits (b : Int)).toNat : Int))) w = _
    rw [h1, wrap_lim k _ h2]; rfl
  · exact bitsA_ok h w P

theorem bitsF_ok {op : BinOp} {k : IntKind} {a b : Int} {v : AV} (h : bitsF op k a b = some v) (w : World) (P : Program) :
    ∃ n, v = .int k n ∧ isBits op = true ∧ (Op.intBits op k a b).run P w = .ok (.int k n) w := by
  unfold bitsF at h
  split at h
  · rename_i m n
    cases hc : (Nat.blt m (lim k) && Nat.blt n (lim k)) with
    | false => rw [hc] at h; exact bitsA_ok h w P
    | true =>
      rw [hc] at h
      simp only [Bool.and_eq_true, blt_iff] at hc
      exact bitsN_ok h hc.1 hc.2 w P
  · exact bitsA_ok h w P

theorem shiftA_ok {op : BinOp} {k l : IntKind} {a b : Int} {v : AV} (h : shiftA op k a b = some v) (w : World) (P : Program) :
    ∃ n, v = .int k n ∧ isShift op = true ∧ (Op.shift op k a l b).run P w = .ok (.int k n) w := by
  unfold shiftA at h
  split at h
  · rename_i a b
    simp only [Option.some.injEq] at h; subst h
    refine ⟨_, rfl, rfl, ?_⟩
    have hb : ¬ ((b : Int) < 0) := by omega
    simp only [Op.shift, Int.ofNat_eq_natCast, hb, if_false, Int.toNat_natCast]
    have : (a : Int).fdiv (2 ^ (min b k.bits)) = ((Nat.shiftRight a (Nat.min b k.bits) : Nat) : Int) := by
      have h2 : (2 : Int) ^ (min b k.bits) = ((2 ^ (min b k.bits) : Nat) : Int) := by simp
      rw [h2, Int.fdiv_eq_ediv_of_nonneg _ (Int.natCast_nonneg _)]
      have h3 : Nat.shiftRight a (Nat.min b k.bits) = a / 2 ^ (min b k.bits) := Nat.shiftRight_eq_div_pow a _
      rw [h3]; simp
    rw [this]; rfl
  · rename_i a b _
    simp only [Option.some.injEq] at h; subst h
    refine ⟨_, rfl, rfl, ?_⟩
    have hb : ¬ ((b : Int) < 0) := by omega
    simp only [Op.shift, Int.ofNat_eq_natCast, hb, if_false, Int.toNat_natCast]
    rfl
  · rename_i a b
    simp only [Option.some.injEq] at h; subst h
    refine ⟨_, rfl, rfl, ?_⟩
    have hb : ¬ ((b : Int) < 0) := by omega
    simp only [Op.shift, Int.ofNat_eq_natCast, hb, if_false, Int.toNat_natCast]
    rfl
  · cases h

theorem intOp_ok {op : BinOp} {k : IntKind} {a b : Int} {v : AV} (hs : isShift op = false) (h : intOp op k a b = some v) (w : World) (P : Program) (t : TypeId) (μ : Mu) :
    ∃ v', (binOp op t (.int k a) (.int k b)).run P w = .ok v' w ∧ VR μ v v' := by
  unfold intOp at h
  split at h
  · simp only [Option.some.injEq] at h; subst h; rw [wrapA_eq]; exact ⟨.int k (k.wrap (a + b)), by simp [binOp, Op.intArith], .int k _⟩
  · simp only [Option.some.injEq] at h; subst h; rw [wrapA_eq]; exact ⟨.int k (k.wrap (a - b)), by simp [binOp, Op.intArith], .int k _⟩
  · simp only [Option.some.injEq] at h; subst h; rw [wrapA_eq]; exact ⟨.int k (k.wrap (a * b)), by simp [binOp, Op.intArith], .int k _⟩
  · obtain ⟨hb, rfl⟩ := divA_ok h; exact ⟨_, by simp [binOp, Op.intDiv, hb], .int k _⟩
  · obtain ⟨hb, rfl⟩ := modA_ok h; exact ⟨_, by simp [binOp, Op.intDiv, hb], .int k _⟩
  · simp only [Option.some.injEq] at h; subst h; rw [intLt_eq]; exact ⟨_, by simp [binOp, Op.intCmp], .bool _⟩
  · simp only [Option.some.injEq] at h; subst h; rw [intLt_eq]
    refine ⟨.bool (decide (a ≤ b)), by simp [binOp, Op.intCmp], ?_⟩
    have : (!decide (b < a)) = decide (a ≤ b) := by rw [Bool.eq_iff_iff]; simp
    rw [show not (decide (b < a)) = decide (a ≤ b) from this]; exact .bool _
  · simp only [Option.some.injEq] at h; subst h; rw [intLt_eq]; exact ⟨_, by simp [binOp, Op.intCmp], .bool _⟩
  · simp only [Option.some.injEq] at h; subst h; rw [intLt_eq]
    refine ⟨.bool (decide (a ≥ b)), by simp [binOp, Op.intCmp], ?_⟩
    have : (!decide (a < b)) = decide (a ≥ b) := by rw [Bool.eq_iff_iff]; simp
    rw [show not (decide (a < b)) = decide (a ≥ b) from this]; exact .bool _
  · simp only [Option.some.injEq] at h; subst h; rw [intEq_eq]; exact ⟨_, by simp [binOp, Op.intCmp], .bool _⟩
  · simp only [Option.some.injEq] at h; subst h; rw [intEq_eq]; exact ⟨.bool (a != b), by simp [binOp, Op.intCmp], .bool _⟩
  · obtain ⟨n, rfl, hbit, hr⟩ := bitsF_ok h w P
    refine ⟨.int k n, ?_, .int k n⟩
    cases op <;> simp [isBits] at hbit <;> simpa [binOp] using hr

theorem numA_ok {op : BinOp} {k : IntKind} {a : Int} {y v : AV} {y' : Value} {μ : Mu} (h : numA op k a y = some v) (hy : VR μ y y') (w : World) (P : Program) (t : TypeId) :
    ∃ v', (binOp op t (.int k a) y').run P w = .ok v' w ∧ VR μ v v' := by
  unfold numA at h
  split at h
  · rename_i l b
    cases hy
    cases hs : isShift op with
    | false =>
      rw [hs] at h
      have h' : (if k = l then intOp op k a b else none) = some v := h
      split at h'
      · rename_i hk; subst hk; exact intOp_ok hs h' w P t μ
      · cases h'
    | true =>
      rw [hs] at h
      have h' : shiftA op k a b = some v := h
      obtain ⟨n, rfl, _, hr⟩ := shiftA_ok (l := l) h' w P
      refine ⟨.int k n, ?_, .int k n⟩
      cases op <;> simp [isShift] at hs <;> simpa [binOp] using hr
  · cases h

/-! texts -/
theorem natsEq_bytes (a b : ByteArray) : natsEq (bytesL a) (bytesL b) = (a.toList == b.toList) := by
  rw [natsEq_eq, ByteArray.toList_eq, ByteArray.toList_eq]
  unfold bytesL
  rw [Bool.eq_iff_iff]
  simp only [beq_iff_eq]
  constructor
  · intro h
    have g : ∀ (x y : List UInt8), x.map (·.toNat) = y.map (·.toNat) → x = y := by
      intro x
      induction x with
      | nil => intro y h; cases y with | nil => rfl | cons _ _ => simp at h
      | cons a x ih =>
        intro y h
        cases y with
        | nil => simp at h
        | cons b y => simp only [List.map_cons, List.cons.injEq] at h; rw [UInt8.toNat_inj.1 h.1, ih y h.2]
    exact g _ _ h
  · intro h; rw [h]

theorem bytesLess_eq : ∀ (a b : List UInt8), bytesLessN (a.map (·.toNat)) (b.map (·.toNat)) = Op.bytesLess a b
  | _, [] => by simp [bytesLessN, Op.bytesLess]
  | [], _ :: _ => by simp [bytesLessN, Op.bytesLess]
  | a :: x, b :: y => by
    simp only [List.map_cons, bytesLessN, Op.bytesLess, bytesLess_eq x y]
    have h1 : Nat.blt a.toNat b.toNat = decide (a < b) := by
      rw [Bool.eq_iff_iff, blt_iff]; simp [UInt8.lt_iff_toNat_lt]
    have h2 : Nat.beq a.toNat b.toNat = (a == b) := by
      rw [Bool.eq_iff_iff, Nat.beq_eq, beq_iff_eq, UInt8.toNat_inj]
    rw [h1, h2]

theorem bytesLess_bytes (a b : ByteArray) : bytesLessN (bytesL a) (bytesL b) = Op.bytesLess a.toList b.toList := by
  rw [ByteArray.toList_eq, ByteArray.toList_eq]; exact bytesLess_eq _ _

theorem bytesL_append (a b : ByteArray) : bytesL a ++ bytesL b = bytesL (a ++ b) := by
  unfold bytesL; simp [ByteArray.data_append]

theorem len_bytes (s : ByteArray) : len (bytesL s) = s.size := by
  rw [len_eq]; unfold bytesL; rw [List.length_map, Lib.size_eq]

theorem textA_ok {op : BinOp} {s : ByteArray} {y v : AV} {y' : Value} {μ : Mu} (h : textA op (bytesL s) y = some v) (hy : VR μ y y') (w : World) (P : Program) (t : TypeId) :
    ∃ v', (binOp op t (.string s) y').run P w = .ok v' w ∧ VR μ v v' := by
  unfold textA at h
  split at h
  · rename_i u
    cases hy
    rename_i s2
    unfold strOp at h
    split at h
    · cases hb : Nat.ble (Nat.add (len (bytesL s)) (len (bytesL s2))) 1099511627776 with
      | false => rw [hb] at h; cases h
      | true =>
        rw [hb] at h; simp only [cond_true, Option.some.injEq] at h
        subst h
        have h1 := Nat.le_of_ble_eq_true hb
        have h2 : s.size + s2.size ≤ 1099511627776 := by rw [len_bytes, len_bytes] at h1; exact h1
        refine ⟨.string (s ++ s2), ?_, by rw [bytesL_append]; exact .str _⟩
        have h3 : ¬ (((s.size + s2.size : Nat) : Int) > IntKind.i64.max) := by simp [IntKind.max, IntKind.signed, IntKind.bits]; omega
        simp only [binOp, Op.stringOp, if_neg h3]; rfl
    · simp only [Option.some.injEq] at h; subst h; rw [natsEq_bytes]; exact ⟨_, by simp [binOp, Op.stringOp], .bool _⟩
    · simp only [Option.some.injEq] at h; subst h; rw [natsEq_bytes]; exact ⟨_, by simp [binOp, Op.stringOp], .bool _⟩
    · simp only [Option.some.injEq] at h; subst h; rw [bytesLess_bytes]; exact ⟨_, by simp [binOp, Op.stringOp], .bool _⟩
    · simp only [Option.some.injEq] at h; subst h; rw [natsEq_bytes, bytesLess_bytes]; exact ⟨_, by simp [binOp, Op.stringOp], .bool _⟩
    · simp only [Option.some.injEq] at h; subst h; rw [natsEq_bytes, bytesLess_bytes]; exact ⟨.bool (!(Op.bytesLess s.toList s2.toList || s.toList == s2.toList)), by simp [binOp, Op.stringOp], .bool _⟩
    · simp only [Option.some.injEq] at h; subst h; rw [bytesLess_bytes]; exact ⟨_, by simp [binOp, Op.stringOp], .bool _⟩
    · cases h
  · cases h

end Go.Ab
end
section
namespace Go.Ab

section
variable {P : Program} {t : TypeId} (w : World) (n : Nat)
theorem eqIn_bool (a b : Bool) (h : P.underlying t = some .bool) : (Op.equalIn (n + 1) t (.bool a) (.bool b)).run P w = .ok (a == b) w := by simp [Op.equalIn, run_underlying h]
theorem eqIn_ptr1 {e : TypeId} (b : Option Addr) (h : P.underlying t = some (.pointer e)) : (Op.equalIn (n + 1) t (.pointer none) (.pointer b)).run P w = .ok b.isNone w := by simp [Op.equalIn, run_underlying h]
theorem eqIn_ptr2 {e : TypeId} (a : Addr) (h : P.underlying t = some (.pointer e)) : (Op.equalIn (n + 1) t (.pointer (some a)) (.pointer none)).run P w = .ok false w := by simp [Op.equalIn, run_underlying h]
theorem eqIn_sl1 {e : TypeId} (b : Option Addr) (i j : Nat) (h : P.underlying t = some (.slice e)) : (Op.equalIn (n + 1) t (.slice none 0 0) (.slice b i j)).run P w = .ok b.isNone w := by simp [Op.equalIn, run_underlying h]
theorem eqIn_sl2 {e : TypeId} (a : Addr) (i j : Nat) (h : P.underlying t = some (.slice e)) : (Op.equalIn (n + 1) t (.slice (some a) i j) (.slice none 0 0)).run P w = .ok false w := by simp [Op.equalIn, run_underlying h]
theorem eqIn_map1 {k e : TypeId} (b : Option Nat) (h : P.underlying t = some (.map k e)) : (Op.equalIn (n + 1) t (.map none) (.map b)).run P w = .ok b.isNone w := by simp [Op.equalIn, run_underlying h]
theorem eqIn_map2 {k e : TypeId} (a : Nat) (h : P.underlying t = some (.map k e)) : (Op.equalIn (n + 1) t (.map (some a)) (.map none)).run P w = .ok false w := by simp [Op.equalIn, run_underlying h]
theorem eqIn_fn1 {a b : Array TypeId} {c : Bool} (h : P.underlying t = some (.func a b c)) : (Op.equalIn (n + 1) t .nilFunc .nilFunc).run P w = .ok true w := by simp [Op.equalIn, run_underlying h]
theorem eqIn_fn2 {a b : Array TypeId} {c : Bool} (f : Fn) (x y : Array Value) (h : P.underlying t = some (.func a b c)) : (Op.equalIn (n + 1) t .nilFunc (.func f x y)).run P w = .ok false w := by simp [Op.equalIn, run_underlying h]
theorem eqIn_fn3 {a b : Array TypeId} {c : Bool} (f : Fn) (x y : Array Value) (h : P.underlying t = some (.func a b c)) : (Op.equalIn (n + 1) t (.func f x y) .nilFunc).run P w = .ok false w := by simp [Op.equalIn, run_underlying h]
theorem eqIn_if1 {a : Array (String × TypeId)} (h : P.underlying t = some (.interface a)) : (Op.equalIn (n + 1) t .nilIface .nilIface).run P w = .ok true w := by simp [Op.equalIn, run_underlying h]
theorem eqIn_if2 {a : Array (String × TypeId)} (u : TypeId) (v : Value) (h : P.underlying t = some (.interface a)) : (Op.equalIn (n + 1) t .nilIface (.iface u v)).run P w = .ok false w := by simp [Op.equalIn, run_underlying h]
theorem eqIn_if3 {a : Array (String × TypeId)} (u : TypeId) (v : Value) (h : P.underlying t = some (.interface a)) : (Op.equalIn (n + 1) t (.iface u v) .nilIface).run P w = .ok false w := by simp [Op.equalIn, run_underlying h]
end

section
variable {E : Env} {P : Program} (ok : EnvOk E P)
include ok

theorem eqA_ok {c : Bool} {t : TypeId} {d : TypeDesc} {x y : AV} {x' y' : Value} {r : Bool} {μ : Mu} (hd : E.under t = some d) (he : eqDesc d x = true)
    (h : eqA c (E.eqT t) x y = some r) (hx : VR μ x x') (hy : VR μ y y') (w : World) : (Op.equal t x' y').run P w = .ok r w := by
  have hu := under_ok ok hd
  have h0 : ∀ a b, Op.equal t a b = Op.equalIn (9999 + 1) t a b := fun _ _ => rfl
  cases x <;> try (simp [eqA] at h; done)
  case agg a =>
    cases y <;> try (simp [eqA] at h; done)
    rename_i b
    simp only [eqA] at h
    cases hg : E.eqT t a with
    | false => rw [hg] at h; cases h
    | true =>
      rw [hg] at h
      cases hx with | agg hx => cases hy with | agg hy => exact (ok.eqs t a hg b r _ _ μ h hx hy w).1
  all_goals
    cases y <;> try (simp [eqA] at h; done)
  case nilIface.nilIface =>
    cases hx; cases hy
    simp only [eqA] at h
    cases c <;> simp at h
    subst h
    cases d <;> simp [eqDesc] at he
    rw [h0]; exact eqIn_if1 w _ hu
  all_goals
    simp only [eqA, Option.some.injEq] at h; subst h
    cases hx; cases hy
    cases d <;> simp [eqDesc] at he
    rw [h0]
  · rw [boolEq_eq]; exact eqIn_bool w _ _ _ hu
  · exact eqIn_ptr2 w _ _ hu
  · exact eqIn_ptr1 w _ _ hu
  · exact eqIn_ptr1 w _ _ hu
  · exact eqIn_sl2 w _ _ _ _ hu
  · exact eqIn_sl1 w _ _ _ _ hu
  · exact eqIn_sl1 w _ _ _ _ hu
  · exact eqIn_map2 w _ _ hu
  · exact eqIn_map1 w _ _ hu
  · exact eqIn_map1 w _ _ hu
  · exact eqIn_fn3 w _ _ _ _ hu
  · exact eqIn_fn2 w _ _ _ _ hu
  · exact eqIn_fn1 w _ hu
  · exact eqIn_if3 w _ _ _ hu
  · exact eqIn_if2 w _ _ _ hu

theorem sameA_ok {c : Bool} {t : TypeId} {op : BinOp} {X Y : Operand} {x y v : AV} {x' y' : Value} {μ : Mu} (h : sameA E t c op x y = some v)
    (hc : c = true → (∃ u, X = .const u) ∨ ∃ u, Y = .const u) (hx : VR μ x x') (hy : VR μ y y') (w : World) :
    ∃ v', (do eqGuard op t X Y x' y'; binOp op t x' y' : Sem Value).run P w = .ok v' w ∧ VR μ v v' := by
  unfold sameA at h
  cases hd : E.under t with
  | none => rw [hd] at h; cases h
  | some d =>
    rw [hd] at h
    obtain ⟨he, h'⟩ := guard_some h
    · cases hr : eqA c (E.eqT t) x y with
      | none => rw [hr] at h'; cases op <;> simp [sameB] at h'
      | some r =>
        rw [hr] at h'
        have hq := eqA_ok ok hd he hr hx hy w
        have hguard : (eqGuard op t X Y x' y').run P w = .ok () w := by
          cases x <;> try (simp [eqA] at hr; done)
          case nilIface =>
            cases y <;> try (simp [eqA] at hr; done)
            · cases hx; cases hy
              rename_i u a
              cases op <;> simp [sameB] at h' <;> simp [eqGuard]
            · cases hx; cases hy
              simp only [eqA] at hr
              cases c <;> simp at hr
              rcases hc rfl with ⟨u, rfl⟩ | ⟨u, rfl⟩ <;> cases op <;> simp [sameB] at h' <;> simp [eqGuard]
          case agg a =>
            cases y <;> try (simp [eqA] at hr; done)
            rename_i b
            simp only [eqA] at hr
            cases hg : E.eqT t a with
            | false => rw [hg] at hr; cases hr
            | true =>
              rw [hg] at hr
              cases hx with | agg hx => cases hy with | agg hy =>
              have hgt := (ok.eqs t a hg b r _ _ μ hr hx hy w).2
              cases op <;> simp [sameB] at h' <;> simp [eqGuard, hgt]
          all_goals
            cases y <;> try (simp [eqA] at hr; done)
          all_goals
            cases hx; cases hy
            cases op <;> simp [sameB] at h' <;> simp [eqGuard]
        simp only [Sem.run_bind, hguard, Result.andThen_ok]
        have hb : ∀ o2, o2 = BinOp.eql ∨ o2 = BinOp.neq → binOp o2 t x' y' = (if o2 = .eql then (do pure (.bool (← Op.equal t x' y'))) else (do pure (.bool (!(← Op.equal t x' y')))) : Sem Value) := by
          intro o2 ho2
          cases x <;> try (simp [eqA] at hr; done)
          all_goals
            cases y <;> try (simp [eqA] at hr; done)
          all_goals
            cases hx; cases hy
            rcases ho2 with rfl | rfl <;> simp [binOp]
        cases op <;> simp [sameB] at h'
        · subst h'; rw [hb _ (.inl rfl)]; exact ⟨.bool r, by simp [hq], .bool r⟩
        · subst h'; rw [hb _ (.inr rfl)]; exact ⟨.bool (!r), by simp [hq], .bool _⟩

theorem binA_ok {c : Bool} {t : TypeId} {op : BinOp} {X Y : Operand} {x y v : AV} {x' y' : Value} {μ : Mu} (h : binA E t c op x y = some v)
    (hc : c = true → (∃ u, X = .const u) ∨ ∃ u, Y = .const u) (hx : VR μ x x') (hy : VR μ y y') (w : World) :
    ∃ v', (do eqGuard op t X Y x' y'; binOp op t x' y' : Sem Value).run P w = .ok v' w ∧ VR μ v v' := by
  unfold binA at h
  split at h
  · rename_i k a
    cases hx
    have hg : (eqGuard op t X Y (.int k a) y').run P w = .ok () w := by cases op <;> simp [eqGuard]
    obtain ⟨v', hv, hr⟩ := numA_ok h hy w P t
    exact ⟨v', by simp [hg, hv], hr⟩
  · rename_i a
    cases hx with | str s =>
    have hg : (eqGuard op t X Y (.string s) y').run P w = .ok () w := by cases op <;> simp [eqGuard]
    obtain ⟨v', hv, hr⟩ := textA_ok h hy w P t
    exact ⟨v', by simp [hg, hv], hr⟩
  · exact sameA_ok ok h hc hx hy w

end

theorem unA_ok {op : UnOp} {x v : AV} {x' : Value} {μ : Mu} (h : unA op x = some v) (hx : VR μ x x') (P : Program) (w : World) :
    ∃ v', (Op.unary op x').run P w = .ok v' w ∧ VR μ v v' := by
  unfold unA at h
  split at h
  · cases hx; simp only [Option.some.injEq] at h; subst h; exact ⟨_, by simp [Op.unary, Op.intArith], .int _ _⟩
  · cases hx
    obtain ⟨n, rfl, _, hr⟩ := bitsA_ok h w P
    exact ⟨_, by simpa [Op.unary] using hr, .int _ _⟩
  · cases hx; simp only [Option.some.injEq] at h; subst h; exact ⟨_, by simp [Op.unary], .bool _⟩
  · cases h

end Go.Ab
end
section
namespace Go.Ab

theorem addr_add (b o n : Nat) : (⟨b, o, none⟩ : Addr).add n = ⟨b, o + n, none⟩ := by
  unfold Addr.add; split
  · rename_i h; subst h; rfl
  · rfl

/-! parts -/
theorem extract_rel {μ : Mu} {cs : List AV} {cs' : Array Value} (h : VRL μ cs cs'.toList) {off n : Nat} {r : List AV} (hc : cut cs off n = some r) :
    VRL μ r (cs'.extract off (off + n)).toList ∧ off + n ≤ cs'.size := by
  obtain ⟨a, b, rfl, ha, hr⟩ := cut_parts hc
  obtain ⟨x, y, hxy, hx, hy⟩ := VRL.split h
  obtain ⟨x1, x2, rfl, hx1, hx2⟩ := VRL.split hx
  have l1 := hx1.length
  have l2 := hx2.length
  have e : (cs'.extract off (off + n)).toList = x2 := by
    rw [Array.toList_extract, hxy]
    rw [List.extract_eq_take_drop]
    have : off + n - off = n := by omega
    rw [this, List.append_assoc, List.drop_left' (by omega), List.take_left' (by omega)]
  refine ⟨by rw [e]; exact hx2, ?_⟩
  have : cs'.size = cs'.toList.length := by simp
  rw [this, hxy]; simp; omega

section
variable {E : Env} {P : Program} (ok : EnvOk E P)
include ok

theorem partA_ok {t : TypeId} {cs : List AV} {cs' : Array Value} {off : Nat} {v : AV} {μ : Mu} (h : partA E t cs off = some v) (hc : VRL μ cs cs'.toList) (w : World) :
    ∃ v', (part t cs' off).run P w = .ok v' w ∧ VR μ v v' := by
  unfold partA at h
  cases hg : E.isAgg t with
  | none => rw [hg] at h; cases h
  | some g =>
    cases hn : E.size t with
    | none => rw [hg, hn] at h; cases h
    | some n =>
      rw [hg, hn] at h
      have h' : load1 g n off (cs, 0, false) = some v := h
      have hag := agg_ok ok hg w
      cases g with
      | false =>
        have h2 : nth cs off = some v := h'
        rw [nth_eq] at h2
        obtain ⟨y, hy, hr⟩ := hc.get off h2
        have hy' : cs'[off]? = some y := by simpa using hy
        exact ⟨y, by simp [part, hag, hy'], hr⟩
      | true =>
        have h2 : (cut cs off n).map AV.agg = some v := h'
        cases hcut : cut cs off n with
        | none => rw [hcut] at h2; cases h2
        | some r =>
          rw [hcut] at h2
          simp only [Option.map_some, Option.some.injEq] at h2; subst h2
          have hs := size_ok ok hn w
          obtain ⟨hr, _⟩ := extract_rel hc hcut
          exact ⟨.agg (cs'.extract off (off + n)), by simp [part, hag, hs], .agg hr⟩

end

theorem fields_ok {E : Env} {t : TypeId} {fs : List Field} (h : E.fields t = some fs) : ∃ a : Array Field, a.toList = fs ∧ E.under t = some (.struct a) := by
  unfold Env.fields at h
  cases hd : E.under t with
  | none => rw [hd] at h; cases h
  | some d =>
    rw [hd] at h
    cases d <;> simp [structOf] at h
    exact ⟨_, h, rfl⟩

/-! build -/
theorem cells_rel {μ : Mu} {v : AV} {v' : Value} (h : VR μ v v') (hj : v ≠ .junk) : VRL μ v.cells v'.cells.toList := by
  cases h with
  | agg c => exact c
  | junk => exact absurd rfl hj
  | empty => exact .cons .empty .nil
  | bool => exact .cons (.bool _) .nil
  | int => exact .cons (.int _ _) .nil
  | str => exact .cons (.str _) .nil
  | ptr e => exact .cons (.ptr e) .nil
  | nilPtr => exact .cons .nilPtr .nil
  | slice e c => exact .cons (.slice e c) .nil
  | nilSlice => exact .cons .nilSlice .nil
  | map e => exact .cons (.map e) .nil
  | nilMap => exact .cons .nilMap .nil
  | func a b => exact .cons (.func a b) .nil
  | yld e => exact .cons (.yld e) .nil
  | nilFunc => exact .cons .nilFunc .nil
  | iface v => exact .cons (.iface v) .nil
  | nilIface => exact .cons .nilIface .nil
  | tup c => exact .cons (.tup c) .nil

theorem sized_rel {μ : Mu} {v : AV} {v' : Value} {n : Nat} (hs : sized v n = true) (h : VR μ v v') : v.cells.length = n ∧ VRL μ v.cells v'.cells.toList ∧ v'.cells.size = n := by
  have hj : v ≠ .junk := by rintro rfl; cases hs
  have hl : len v.cells = n := by
    cases v <;> first | exact absurd rfl hj | exact Nat.eq_of_beq_eq_true hs
  rw [len_eq] at hl
  have hr := cells_rel h hj
  have := hr.length
  refine ⟨hl, hr, ?_⟩
  have e : v'.cells.size = v'.cells.toList.length := by simp
  omega

/-- laid over, one cell behind the other -/
theorem foldl_set (pre post : List Value) : ∀ (l dn mid : List Value) (k : Nat), dn.length = k → mid.length = l.length →
    (l.zipIdx k).foldl (fun (cs : Array Value) (x : Value × Nat) => cs.setIfInBounds (pre.length + x.2) x.1) (pre ++ dn ++ mid ++ post).toArray = (pre ++ dn ++ l ++ post).toArray
  | [], dn, mid, k, _, h => by
    have : mid = [] := List.length_eq_zero_iff.1 (by simpa using h)
    subst this; simp
  | x :: l, dn, [], k, _, h => by simp at h
  | x :: l, dn, y :: mid, k, hk, h => by
    simp only [List.zipIdx_cons, List.foldl_cons]
    have e : (pre ++ dn ++ y :: mid ++ post).toArray.setIfInBounds (pre.length + k) x = (pre ++ (dn ++ [x]) ++ mid ++ post).toArray := by
      subst hk
      have : pre ++ dn ++ y :: mid ++ post = (pre ++ dn) ++ y :: (mid ++ post) := by simp
      rw [this, List.setIfInBounds_toArray, List.set_append_right _ _ (by simp)]
      simp
    rw [e, foldl_set pre post l (dn ++ [x]) mid (k + 1) (by simp [hk]) (by simpa using h)]
    simp

theorem zip_fold (v : Array Value) (off : Nat) (cs : Array Value) : v.zipIdx.foldl (fun cs x => cs.setIfInBounds (off + x.2) x.1) cs =
    (v.toList.zipIdx 0).foldl (fun (cs : Array Value) (x : Value × Nat) => cs.setIfInBounds (off + x.2) x.1) cs := by
  rw [← Array.foldl_toList]
  simp

/-- one part laid over -/
theorem lay_rel {μ : Mu} {v : AV} {v' : Value} {n off : Nat} {cs r : List AV} {cs' : Array Value} (hs : sized v n = true) (h : VR μ v v') (hc : VRL μ cs cs'.toList) (hsp : splice v.cells off cs = some r) :
    v'.cells.size = n ∧ off + v'.cells.size ≤ cs'.size ∧ VRL μ r (v'.cells.zipIdx.foldl (fun cs x => cs.setIfInBounds (off + x.2) x.1) cs').toList := by
  obtain ⟨h1, h2, h3⟩ := sized_rel hs h
  obtain ⟨a, m, b, rfl, rfl, ha, hm⟩ := splice_parts (α := AV) hsp
  obtain ⟨x, y, hxy, hx, hy⟩ := VRL.split hc
  obtain ⟨x1, x2, rfl, hx1, hx2⟩ := VRL.split hx
  have l1 := hx1.length
  have l2 := hx2.length
  have l3 := h2.length
  have hcs : cs' = (x1 ++ x2 ++ y).toArray := by apply Array.toList_inj.1; simp [hxy]
  have hsz : cs'.size = (x1 ++ x2 ++ y).length := by rw [hcs]; simp
  refine ⟨h3, by rw [hsz]; simp; omega, ?_⟩
  rw [zip_fold, hcs]
  have := foldl_set x1 y v'.cells.toList [] x2 0 rfl (by omega)
  simp only [List.append_nil] at this
  have hl : x1.length = off := by omega
  rw [hl] at this
  rw [this]
  exact (hx1.append h2).append hy

theorem run_mapM {α β : Type} {P : Program} {w : World} {f : α → Sem β} {g : α → β} : ∀ (l : List α), (∀ x, x ∈ l → (f x).run P w = .ok (g x) w) → (l.mapM f).run P w = .ok (l.map g) w
  | [], _ => by simp
  | x :: l, h => by
    have h1 := h x (by simp)
    have h2 := run_mapM l (fun y hy => h y (by simp [hy]))
    simp [h1, h2]

theorem fillS_ok {E : Env} {tm : T AV} {a : Act} {μ : Mu} (r : TmR μ tm a.tmps) (fs : List Field) (place : Nat → Option (Nat × Nat))
    (hp : ∀ i f n, fs[i]? = some f → E.size f.type = some n → place i = some (f.offset, n)) : ∀ (parts : List (Nat × Operand)) (cs res : List AV) (cs' : Array Value),
    fillS E tm fs parts cs = some res → VRL μ cs cs'.toList → ∃ res', Instr.fill place cs' (parts.map fun (i, x) => (i, a.eval x)) = some res' ∧ VRL μ res res'.toList
  | [], cs, res, cs', h, hc => by simp only [fillS, Option.some.injEq] at h; subst h; exact ⟨cs', rfl, hc⟩
  | (i, x) :: parts, cs, res, cs', h, hc => by
    simp only [fillS] at h
    cases hf : nth fs i with
    | none => rw [hf] at h; cases h
    | some f =>
      rw [hf] at h
      obtain ⟨h1, h2⟩ := guard_some h
      cases hn : E.size f.type with
      | none => rw [hn] at h1; cases h1
      | some n =>
        rw [hn] at h1
        have h1' : sized (operand tm x) n = true := h1
        cases hsp : splice (operand tm x).cells f.offset cs with
        | none => rw [hsp] at h2; cases h2
        | some q =>
          rw [hsp] at h2
          obtain ⟨g1, g2, g3⟩ := lay_rel h1' (operand_rel r x) hc hsp
          obtain ⟨res', e1, e2⟩ := fillS_ok r fs place hp parts q res _ h2 g3
          refine ⟨res', ?_, e2⟩
          rw [nth_eq] at hf
          simp only [List.map_cons, Instr.fill, hp i f n hf hn]
          rw [if_neg]
          · exact e1
          · simp [g1]; omega

theorem fillE_ok {tm : T AV} {a : Act} {μ : Mu} (r : TmR μ tm a.tmps) (s : Nat) : ∀ (parts : List (Nat × Operand)) (cs res : List AV) (cs' : Array Value),
    fillE s tm parts cs = some res → VRL μ cs cs'.toList → ∃ res', Instr.fill (fun i => some (i * s, s)) cs' (parts.map fun (i, x) => (i, a.eval x)) = some res' ∧ VRL μ res res'.toList
  | [], cs, res, cs', h, hc => by simp only [fillE, Option.some.injEq] at h; subst h; exact ⟨cs', rfl, hc⟩
  | (i, x) :: parts, cs, res, cs', h, hc => by
    simp only [fillE] at h
    obtain ⟨h1, h2⟩ := guard_some h
    cases hsp : splice (operand tm x).cells (Nat.mul i s) cs with
    | none => rw [hsp] at h2; cases h2
    | some q =>
      rw [hsp] at h2
      obtain ⟨g1, g2, g3⟩ := lay_rel h1 (operand_rel r x) hc hsp
      obtain ⟨res', e1, e2⟩ := fillE_ok r s parts q res _ h2 g3
      refine ⟨res', ?_, e2⟩
      simp only [List.map_cons, Instr.fill]
      rw [if_neg]
      · exact e1
      · simp [g1]
        have : Nat.mul i s = i * s := rfl
        omega

theorem sizes_ok {E : Env} : ∀ (fs : List Field), sizesKnown E fs = true → ∀ f ∈ fs, ∃ n, E.size f.type = some n
  | [], _, f, h => by simp at h
  | g :: fs, h, f, hf => by
    simp only [sizesKnown] at h
    cases hn : E.size g.type with
    | none => rw [hn] at h; cases h
    | some n =>
      rw [hn] at h
      rcases List.mem_cons.1 hf with rfl | hf'
      · exact ⟨n, hn⟩
      · exact sizes_ok fs h f hf'

theorem build_ok {E : Env} {P : Program} (ok : EnvOk E P) {tm : T AV} {a : Act} {μ : Mu} (r : TmR μ tm a.tmps) {t : TypeId} {parts : Array (Nat × Operand)} {v : AV} (h : pBuild t parts E tm = some v) (w : World) :
    ∃ v', (Instr.build t (parts.map fun (i, x) => (i, a.eval x))).run P w = .ok v' w ∧ VR μ v v' := by
  unfold pBuild at h
  cases hz : E.zero t with
  | none => rw [hz] at h; cases h
  | some z =>
    obtain ⟨z', hz', hzr⟩ := zero_ok ok hz μ w
    have hzc : VRL μ z.cells z'.cells.toList := cells_rel hzr (zero_nj hz)
    have hpl : (parts.map fun (i, x) => (i, a.eval x)).toList = parts.toList.map fun (i, x) => (i, a.eval x) := by simp
    cases hd : E.under t with
    | none => rw [hz, hd] at h; cases h
    | some d =>
      rw [hz, hd] at h
      have hu := runUnder ok hd w
      cases d <;> try (cases h; done)
      case struct fs =>
        obtain ⟨hk, h2⟩ := guard_some h
        have hsz := sizes_ok fs.toList hk
        cases hf : fillS E tm fs.toList parts.toList z.cells with
        | none => rw [hf] at h2; cases h2
        | some res =>
          rw [hf] at h2
          simp only [Option.map_some, Option.some.injEq] at h2; subst h2
          let g : Field → Nat × Nat := fun f => (f.offset, (E.size f.type).getD 0)
          have hrun : (fs.mapM fun f => do pure (f.offset, ← sizeOf f.type) : Sem (Array (Nat × Nat))).run P w = .ok (fs.map g) w := by
            rw [Array.mapM_eq_mapM_toList]
            rw [Sem.run_map, run_mapM (g := g) fs.toList]
            · simp only [Result.andThen_ok]; congr 1; apply Array.toList_inj.1; simp
            · intro f hf
              obtain ⟨n, hn⟩ := hsz f hf
              simp [size_ok ok hn, g, hn]
          obtain ⟨res', e1, e2⟩ := fillS_ok r fs.toList (fun i => (fs.map g)[i]?) (by
            intro i f n hi hn
            have : fs[i]? = some f := by simpa using hi
            simp [this, g, hn]) parts.toList z.cells res z'.cells hf hzc
          refine ⟨.agg res', ?_, .agg e2⟩
          simp only [Instr.build, Sem.run_bind, hz', Result.andThen_ok, hu, hrun, hpl, e1]
          rfl
      case array n e =>
        cases hs : E.size e with
        | none => simp only [hs] at h; cases h
        | some s =>
          simp only [hs] at h
          have h2 : (fillE s tm parts.toList z.cells).map AV.agg = some v := h
          cases hf : fillE s tm parts.toList z.cells with
          | none => rw [hf] at h2; cases h2
          | some res =>
            rw [hf] at h2
            simp only [Option.map_some, Option.some.injEq] at h2; subst h2
            obtain ⟨res', e1, e2⟩ := fillE_ok r s parts.toList z.cells res z'.cells hf hzc
            refine ⟨.agg res', ?_, .agg e2⟩
            simp only [Instr.build, Sem.run_bind, hz', Result.andThen_ok, hu, size_ok ok hs, hpl, e1]
            rfl

end Go.Ab
end
