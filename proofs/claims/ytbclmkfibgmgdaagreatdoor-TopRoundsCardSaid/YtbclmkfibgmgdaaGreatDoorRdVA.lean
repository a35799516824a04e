/- The abstract machine's data: values, blocks, the heap, choices. The abstract machine's operations. Conditions: none. -/
import GoSem.Step
section
namespace Go.Ab

/-! trees of a fixed depth, keyed by numbers (the lowest digit in base two first) -/
inductive T (α : Type) where
  | leaf (v : α)
  | node (l r : T α)

namespace T
variable {α : Type}
noncomputable def get (dflt : α) (t : T α) : Nat → α :=
  T.rec (fun v k => Nat.rec v (fun _ _ => dflt) k) (fun _ _ gl gr k => Bool.rec (gl (Nat.div k 2)) (gr (Nat.div k 2)) (Nat.beq (Nat.mod k 2) 1)) t

noncomputable def set (t : T α) (k : Nat) (x : α) : T α :=
  T.rec (fun v k => Nat.rec (.leaf x) (fun _ _ => .leaf v) k)
    (fun l r pl pr k => Bool.rec (.node (pl (Nat.div k 2)) r) (.node l (pr (Nat.div k 2))) (Nat.beq (Nat.mod k 2) 1)) t k

noncomputable def full (dflt : α) (d : Nat) : T α := Nat.rec (.leaf dflt) (fun _ t => .node t t) d
noncomputable def sets (l : List α) (k : Nat) (t : T α) : T α := List.rec (motive := fun _ => Nat → T α → T α) (fun _ t => t) (fun x _ go k t => go (Nat.succ k) (t.set k x)) l k t
end T

noncomputable def nth {α : Type} (l : List α) : Nat → Option α :=
  List.rec (fun _ => none) (fun x _ ih n => Nat.rec (some x) (fun m _ => ih m) n) l

noncomputable def len {α : Type} (l : List α) : Nat := List.rec 0 (fun _ _ n => Nat.succ n) l

/-- the n things from a place on; none: there are not so many -/
noncomputable def takeE {α : Type} (l : List α) : Nat → Option (List α) :=
  List.rec (fun n => Nat.rec (some []) (fun _ _ => none) n) (fun x _ ih n => Nat.rec (some []) (fun m _ => (ih m).map (x :: ·)) n) l
noncomputable def cut {α : Type} (l : List α) (off n : Nat) : Option (List α) :=
  Nat.rec (motive := fun _ => List α → Option (List α)) (fun l => takeE l n) (fun _ go l => List.rec none (fun _ l _ => go l) l) off l

inductive AV where
  | bool (b : Bool)
  | int (k : IntKind) (n : Int)
  | str (s : List Nat)
  | ptr (b off : Nat)
  | nilPtr
  | slice (b off len cap op : Nat)      -- op: 0: its capacity is known; else: it may be greater, and 1 more than the cells of an element
  | nilSlice
  | map (r : Nat)
  | nilMap
  | func (f : FuncId) (first captured : List AV)
  | yld (l : Nat)
  | nilFunc
  | iface (t : TypeId) (v : AV)
  | nilIface
  | agg (cs : List AV)
  | tup (cs : List AV)
  | empty      -- a slice of no elements, its place unknown
  | junk

def undefA : AV := .tup []

def AV.cells : AV → List AV
  | .agg cs => cs
  | v => [v]

inductive ADef where
  | coll (r : Nat)
  | call (f : FuncId) (args : List AV)

inductive AObj where
  | cells (c : List AV) (elem : TypeId) (op : Bool)
  | map (es : List (AV × AV)) (mods : Nat)
  | strIter (s : List Nat) (pos : Nat)
  | mapIter (m : Option Nat) (mods : Nat) (seen : List AV)
  | loop (st : LoopState) (pend : Option Code) (fn : FuncId) (tm : T AV) (nt : Nat) (params : List Nat) (assign body : Code) (defers : Nat)
  | deferred (taken : Bool) (ds : List ADef)
  | ro (c : List AV)      -- cells that are read only, and may lie with others in one block

structure Heap where
  t : T (Option AObj)
  next : Nat
  log : List Nat

noncomputable def Heap.get (h : Heap) (b : Nat) : Option AObj := Heap.rec (fun t _ _ => t.get none b) h
noncomputable def Heap.put (h : Heap) (b : Nat) (o : AObj) : Heap := Heap.rec (fun t n l => ⟨t.set b (some o), n, b :: l⟩) h
noncomputable def Heap.drop (h : Heap) (b : Nat) : Heap := Heap.rec (fun t n l => ⟨t.set b none, n, b :: l⟩) h

inductive CT (β : Type) where
  | ret (b : β)
  | bad
  | pick (n : Nat) (k : Nat → CT β)

noncomputable def CT.bind {α β : Type} (m : CT α) (f : α → CT β) : CT β := CT.rec f .bad (fun n _ ih => .pick n ih) m

end Go.Ab
end
section
namespace Go.Ab
set_option linter.unusedVariables false
noncomputable section

def boolEq (a b : Bool) : Bool := bif a then b else not b
mutual
def AV.beq : AV → AV → Bool
  | .bool a, .bool b => boolEq a b
  | .int k a, .int l b => decide (k = l) && decide (a = b)
  | .str a, .str b => natsEq a b
  | .ptr a b, .ptr c d => Nat.beq a c && Nat.beq b d
  | .nilPtr, .nilPtr => true
  | .slice a b c d e, .slice a' b' c' d' e' => Nat.beq a a' && Nat.beq b b' && Nat.beq c c' && Nat.beq d d' && Nat.beq e e'
  | .nilSlice, .nilSlice => true
  | .map a, .map b => Nat.beq a b
  | .nilMap, .nilMap => true
  | .func f a b, .func g c d => Nat.beq f g && AV.beqL a c && AV.beqL b d
  | .yld a, .yld b => Nat.beq a b
  | .nilFunc, .nilFunc => true
  | .iface t v, .iface u w => Nat.beq t u && AV.beq v w
  | .nilIface, .nilIface => true
  | .agg a, .agg b => AV.beqL a b
  | .tup a, .tup b => AV.beqL a b
  | _, _ => false
def AV.beqL : List AV → List AV → Bool
  | [], [] => true
  | a :: x, b :: y => AV.beq a b && AV.beqL x y
  | _, _ => false
def natsEq : List Nat → List Nat → Bool
  | [], [] => true
  | a :: x, b :: y => Nat.beq a b && natsEq x y
  | _, _ => false
end

structure Env where
  tt : T (Option TypeInfo)
  ft : T (Option Func)
  fork : Nat → Bool
  ord : Nat → Nat → List Nat      -- a function's region that draws: the order in which it is run here; none: that of the text
  sum : Nat → Option (List AV → Heap → Option (AV × Heap))      -- functions whose calls are not run here: what is known of them
  eqT : Nat → List AV → Bool      -- structs and arrays whose '==' is that of their cells, one by one

def TypeDesc.base (E : Env) : TypeDesc → Option TypeDesc
  | .named _ u => (E.tt.get none u).map (·.desc)
  | d => some d
def Env.under (E : Env) (t : TypeId) : Option TypeDesc := (E.tt.get none t).bind fun i => TypeDesc.base E i.desc
def Env.size (E : Env) (t : TypeId) : Option Nat := (E.tt.get none t).map (·.size)
def aggDesc : TypeDesc → Bool
  | .struct _ | .array _ _ => true
  | _ => false
def Env.isAgg (E : Env) (t : TypeId) : Option Bool := (E.under t).map aggDesc

def bytesL (s : ByteArray) : List Nat := s.data.toList.map (·.toNat)

/-- a constant of the program, read -/
def ofValue : Nat → Value → Option AV
  | 0, _ => none
  | _, .bool b => some (.bool b)
  | _, .int k n => some (.int k n)
  | _, .string s => some (.str (bytesL s))
  | _, .pointer none => some .nilPtr
  | _, .slice none 0 0 => some .nilSlice
  | _, .map none => some .nilMap
  | _, .nilFunc => some .nilFunc
  | d + 1, .func (.func f) a b => match a.toList.mapM (ofValue d), b.toList.mapM (ofValue d) with
    | some a, some b => some (.func f a b)
    | _, _ => none
  | d + 1, .iface t v => (ofValue d v).map (.iface t)
  | _, .nilIface => some .nilIface
  | d + 1, .agg cs => (cs.toList.mapM (ofValue d)).map .agg
  | d + 1, .tuple cs => (cs.toList.mapM (ofValue d)).map .tup
  | _, _ => none

def Env.zero (E : Env) (t : TypeId) : Option AV := (E.tt.get none t).bind fun i => i.zero.bind (ofValue 6)

def orJunk : Option AV → AV
  | some v => v
  | none => .junk
def operand (tm : T AV) (x : Operand) : AV :=
  Operand.rec (motive := fun _ => T AV → AV) (fun t tm => tm.get undefA t) (fun v _ => orJunk (ofValue 6 v)) (fun _ _ => .junk) (fun f _ => .func f [] []) x tm

/-! list pieces -/
def over {α : Type} (vs : List α) : List α → Option (List α) :=
  List.rec (fun cs => some cs) (fun v _ ih cs => List.rec none (fun _ cs _ => (ih cs).map (v :: ·)) cs) vs
def splice (vs : List AV) (n : Nat) : List AV → Option (List AV) :=
  Nat.rec (fun cs => over vs cs) (fun _ ih cs => List.rec none (fun c cs _ => (ih cs).map (c :: ·)) cs) n

def rep (z : List AV) : Nat → List AV
  | 0 => []
  | n + 1 => z ++ rep z n

/-! results of one operation -/
inductive OR where
  | val (v : AV)
  | enter (f : FuncId) (args : List AV)
  | round (l : Nat) (args : List AV)
  | defer (d : ADef)

abbrev R := CT (OR × Heap)
def val (v : AV) (h : Heap) : R := .ret (.val v, h)
def opt (v : Option AV) (h : Heap) : R := match v with | some v => val v h | none => .bad

def structOf : TypeDesc → Option (List Field)
  | .struct fs => some fs.toList
  | _ => none
def sliceOf : TypeDesc → Option TypeId
  | .slice e => some e
  | _ => none
def Env.fields (E : Env) (t : TypeId) : Option (List Field) := (E.under t).bind structOf
def Env.elem (E : Env) (t : TypeId) : Option TypeId := (E.under t).bind sliceOf

def cellsOf : AObj → Option (List AV × TypeId × Bool)
  | .cells c e o => some (c, e, o)
  | _ => none
def Heap.cells (h : Heap) (b : Nat) : Option (List AV × TypeId × Bool) := (h.get b).bind cellsOf
def rcellsOf : AObj → Option (List AV × TypeId × Bool)
  | .cells c e o => some (c, e, o)
  | .ro c => some (c, 0, false)
  | _ => none
def Heap.rcells (h : Heap) (b : Nat) : Option (List AV × TypeId × Bool) := (h.get b).bind rcellsOf
def mapOf : AObj → Option (List (AV × AV) × Nat)
  | .map e m => some (e, m)
  | _ => none
def Heap.mapAt (h : Heap) (b : Nat) : Option (List (AV × AV) × Nat) := (h.get b).bind mapOf

def ptrOf : AV → Option (Nat × Nat)
  | .ptr b o => some (b, o)
  | _ => none

/-- a value of so many cells -/
def sized (v : AV) (n : Nat) : Bool :=
  match v with
  | .junk => false
  | v => Nat.beq (len v.cells) n

/-- what one cell bears -/
def scalar : AV → Bool
  | .agg _ | .tup _ | .junk => false
  | _ => true
def scalars : List AV → Bool
  | [] => true
  | v :: l => Bool.rec false (scalars l) (scalar v)

/-! loads and stores -/
def load1 (agg : Bool) (n : Nat) (off : Nat) (c : List AV × TypeId × Bool) : Option AV :=
  Bool.rec (nth c.1 off) ((cut c.1 off n).map .agg) agg
def loadA (E : Env) (t : TypeId) (h : Heap) (p : Nat × Nat) : Option AV :=
  match E.isAgg t, E.size t with
  | some g, some n => (h.rcells p.1).bind (load1 g n p.2)
  | _, _ => none

def storeA (E : Env) (t : TypeId) (h : Heap) (v : AV) (p : Nat × Nat) : Option Heap :=
  match E.size t, h.cells p.1 with
  | some n, some (c, e, o) => Bool.rec none ((splice v.cells p.2 c).map fun c' => h.put p.1 (.cells c' e o)) (sized v n && scalars v.cells)
  | _, _ => none

def natOf : Int → Option Nat
  | .ofNat n => some n
  | .negSucc _ => none
def asN : AV → Option Nat
  | .int _ n => natOf n
  | _ => none
def asI : AV → Option Int
  | .int _ n => some n
  | _ => none

/-! numbers -/
def lim : IntKind → Nat
  | .i8 => 128 | .i16 => 32768 | .i32 => 2147483648 | .i64 => 9223372036854775808
  | .u8 => 256 | .u16 => 65536 | .u32 => 4294967296 | .u64 => 18446744073709551616
def wrapN (k : IntKind) (n : Nat) : AV := Bool.rec (.int k (k.wrap (.ofNat n))) (.int k (.ofNat n)) (Nat.blt n (lim k))
def wrapA (k : IntKind) (n : Int) : AV := Int.rec (wrapN k) (fun m => .int k (k.wrap (.negSucc m))) n

def bitsA (op : BinOp) (k : IntKind) (a b : Int) : Option AV :=
  match op with
  | .and => some (.int k (k.wrap (BitVec.ofInt k.bits a &&& BitVec.ofInt k.bits b).toNat))
  | .or => some (.int k (k.wrap (BitVec.ofInt k.bits a ||| BitVec.ofInt k.bits b).toNat))
  | .xor => some (.int k (k.wrap (BitVec.ofInt k.bits a ^^^ BitVec.ofInt k.bits b).toNat))
  | .andNot => some (.int k (k.wrap (BitVec.ofInt k.bits a &&& ~~~ (BitVec.ofInt k.bits b)).toNat))
  | _ => none

def bitsN (op : BinOp) (k : IntKind) (a b : Nat) : Option AV :=
  match op with
  | .and => some (.int k (.ofNat (Nat.land a b)))
  | .or => some (.int k (.ofNat (Nat.lor a b)))
  | .xor => some (.int k (.ofNat (Nat.xor a b)))
  | op => bitsA op k (.ofNat a) (.ofNat b)

def bitsF (op : BinOp) (k : IntKind) (a b : Int) : Option AV :=
  match a, b with
  | .ofNat m, .ofNat n => Bool.rec (bitsA op k a b) (bitsN op k m n) (Nat.blt m (lim k) && Nat.blt n (lim k))
  | a, b => bitsA op k a b

def intLt : Int → Int → Bool
  | .ofNat a, .ofNat b => Nat.blt a b
  | .negSucc _, .ofNat _ => true
  | .ofNat _, .negSucc _ => false
  | .negSucc a, .negSucc b => Nat.blt b a
def intEq : Int → Int → Bool
  | .ofNat a, .ofNat b => Nat.beq a b
  | .negSucc a, .negSucc b => Nat.beq a b
  | _, _ => false

def divA (k : IntKind) (a b : Int) : Option AV :=
  match a, b with
  | .ofNat a, .ofNat (b + 1) => some (.int k (k.wrap (.ofNat (Nat.div a (b + 1)))))
  | a, b => bif intEq b 0 then none else some (.int k (k.wrap (a.tdiv b)))
def modA (k : IntKind) (a b : Int) : Option AV :=
  match a, b with
  | .ofNat a, .ofNat (b + 1) => some (.int k (.ofNat (Nat.mod a (b + 1))))
  | a, b => bif intEq b 0 then none else some (.int k (a.tmod b))

def intOp (op : BinOp) (k : IntKind) (a b : Int) : Option AV :=
  match op with
  | .add => some (wrapA k (Int.add a b))
  | .sub => some (wrapA k (Int.sub a b))
  | .mul => some (wrapA k (Int.mul a b))
  | .quo => divA k a b
  | .rem => modA k a b
  | .lss => some (.bool (intLt a b))
  | .leq => some (.bool (not (intLt b a)))
  | .gtr => some (.bool (intLt b a))
  | .geq => some (.bool (not (intLt a b)))
  | .eql => some (.bool (intEq a b))
  | .neq => some (.bool (not (intEq a b)))
  | op => bitsF op k a b

def bytesLessN : List Nat → List Nat → Bool
  | _, [] => false
  | [], _ :: _ => true
  | a :: x, b :: y => Nat.blt a b || (Nat.beq a b && bytesLessN x y)

def strOp (op : BinOp) (a b : List Nat) : Option AV :=
  match op with
  | .add => bif Nat.ble (Nat.add (len a) (len b)) 1099511627776 then some (.str (a ++ b)) else none
  | .eql => some (.bool (natsEq a b))
  | .neq => some (.bool (not (natsEq a b)))
  | .lss => some (.bool (bytesLessN a b))
  | .leq => some (.bool (bytesLessN a b || natsEq a b))
  | .gtr => some (.bool (not (bytesLessN a b || natsEq a b)))
  | .geq => some (.bool (not (bytesLessN a b)))
  | _ => none

def eqScalars : List AV → List AV → Option Bool
  | [], [] => some true
  | .int k a :: x, .int l b :: y => if k = l then (bif intEq a b then eqScalars x y else some false) else none
  | .str a :: x, .str b :: y => bif natsEq a b then eqScalars x y else some false
  | .bool a :: x, .bool b :: y => bif boolEq a b then eqScalars x y else some false
  | _, _ => none

/-- the kinds of a type's cells, that are compared one by one -/
inductive EK where
  | i (k : IntKind)
  | s
  | b
def kindOk : EK → AV → Bool
  | .i k, .int l _ => decide (k = l)
  | .s, .str _ => true
  | .b, .bool _ => true
  | _, _ => false
def kindsOk : List EK → List AV → Bool
  | [], [] => true
  | k :: ks, a :: as => bif kindOk k a then kindsOk ks as else false
  | _, _ => false

/-- '==' on what is neither a number nor a text; 'c': an operand is written as a constant; 'g': structs and arrays are compared cell by cell -/
def eqA (c : Bool) (g : List AV → Bool) : AV → AV → Option Bool
  | .bool a, .bool b => some (boolEq a b)
  | .nilPtr, .nilPtr => some true
  | .nilPtr, .ptr _ _ => some false
  | .ptr _ _, .nilPtr => some false
  | .nilSlice, .nilSlice => some true
  | .nilSlice, .slice .. => some false
  | .slice .., .nilSlice => some false
  | .nilMap, .nilMap => some true
  | .nilMap, .map _ => some false
  | .map _, .nilMap => some false
  | .nilFunc, .nilFunc => some true
  | .nilFunc, .func .. => some false
  | .func .., .nilFunc => some false
  | .nilIface, .nilIface => bif c then some true else none
  | .nilIface, .iface .. => some false
  | .iface .., .nilIface => some false
  | .agg a, .agg b => bif g a then eqScalars a b else none
  | _, _ => none

def shiftA (op : BinOp) (k : IntKind) (a b : Int) : Option AV :=
  match op, a, b with
  | .shr, .ofNat a, .ofNat b => some (.int k (.ofNat (Nat.shiftRight a (Nat.min b k.bits))))
  | .shr, a, .ofNat b => some (.int k (a.fdiv (2 ^ (min b k.bits))))
  | .shl, a, .ofNat b => some (.int k (k.wrap (a * 2 ^ (min b k.bits))))
  | _, _, _ => none

def isShift : BinOp → Bool
  | .shl | .shr => true
  | _ => false

def numA (op : BinOp) (k : IntKind) (a : Int) : AV → Option AV
  | .int l b => Bool.rec (if k = l then intOp op k a b else none) (shiftA op k a b) (isShift op)
  | _ => none
def textA (op : BinOp) (a : List Nat) : AV → Option AV
  | .str b => strOp op a b
  | _ => none
def eqDesc : TypeDesc → AV → Bool
  | .bool, .bool _ => true
  | .pointer _, .nilPtr | .pointer _, .ptr .. => true
  | .slice _, .nilSlice | .slice _, .slice .. => true
  | .map _ _, .nilMap | .map _ _, .map _ => true
  | .func .., .nilFunc | .func .., .func .. => true
  | .interface _, .nilIface | .interface _, .iface .. => true
  | .struct _, .agg _ | .array _ _, .agg _ => true
  | _, _ => false
def sameB (op : BinOp) (r : Option Bool) : Option AV :=
  match op with
  | .eql => r.map .bool
  | .neq => r.map fun b => .bool (not b)
  | _ => none
def sameA (E : Env) (t : TypeId) (c : Bool) (op : BinOp) (x y : AV) : Option AV :=
  match E.under t with
  | some d => Bool.rec none (sameB op (eqA c (E.eqT t) x y)) (eqDesc d x)
  | none => none
def binA (E : Env) (t : TypeId) (c : Bool) (op : BinOp) (x y : AV) : Option AV :=
  match x with
  | .int k a => numA op k a y
  | .str a => textA op a y
  | x => sameA E t c op x y

def unA (op : UnOp) (x : AV) : Option AV :=
  match op, x with
  | .neg, .int k n => some (.int k (k.wrap (0 - n)))
  | .xor, .int k n => bitsA .xor k (if k.signed then -1 else k.max) n
  | .not, .bool b => some (.bool (not b))
  | _, _ => none

/-! conversions -/
def isByte : TypeDesc → Bool
  | .int .u8 => true
  | _ => false
def Env.byteElem (E : Env) (e : TypeId) : Bool := match E.under e with | some d => isByte d | none => false

def toBytes (l : List Nat) : List AV := l.map fun (n : Nat) => AV.int .u8 (.ofNat n)
def ofBytes : List AV → Option (List Nat)
  | [] => some []
  | .int .u8 (.ofNat n) :: rest => bif Nat.blt n 256 then (ofBytes rest).map (n :: ·) else none
  | _ => none

def convText (x : AV) (e : TypeId) (E : Env) (h : Heap) : Option AV :=
  match x with
  | .nilSlice => Bool.rec none (some (.str [])) (E.byteElem e)
  | .slice b off n _ _ => Bool.rec none ((((h.cells b).bind fun c => cut c.1 off n).bind ofBytes).map .str) (E.byteElem e)
  | _ => none
def convLive (x : AV) : Option AObj → Option AV
  | some (.ro _) => none
  | some _ => some x
  | none => none
def convSlices (src dst : TypeId) (x : AV) (e : TypeId) (E : Env) (h : Heap) : Option AV :=
  match x with
  | .slice b off n c o => Bool.rec none (convLive (.slice b off n c o) (h.get b)) (E.byteElem e && Nat.beq src dst)
  | _ => none
def convNum (x : AV) : TypeDesc → Option AV
  | .int k => match x with | .int _ n => some (.int k (k.wrap n)) | _ => none
  | .string => match x with | .str s => some (.str s) | _ => none
  | _ => none

/-! slices -/
def bnd (x : Option AV) (dflt : Nat) : Option Nat :=
  match x with
  | none => some dflt
  | some v => asN v
def offAt (off l m s : Nat) : Nat := bif Nat.beq m l then off else Nat.add off (Nat.mul l s)
def within (l h m c : Nat) : Bool := Nat.ble l h && Nat.ble h m && Nat.ble m c

/-- a third bound wants a second one -/
def boundsOk (hi mx : Option AV) : Bool := hi.isSome || mx.isNone
def sliceArr (n e : Nat) (b off : Nat) (lo hi mx : Option AV) (E : Env) : Option AV :=
  match bnd mx n, bnd hi n, bnd lo 0, E.size e with
  | some m, some hh, some l, some s => Bool.rec none (some (.slice b (offAt off l m s) (Nat.sub hh l) (Nat.sub m l) 0)) (within l hh m n && boundsOk hi mx)
  | _, _, _, _ => none
def sliceStr (s : List Nat) (lo hi mx : Option AV) : Option AV :=
  match bnd hi (len s), bnd lo 0, mx with
  | some hh, some l, none => Bool.rec none ((cut s l (Nat.sub hh l)).map .str) (Nat.ble l hh)
  | _, _, _ => none
def sliceOp (b off l hh m s op : Nat) (lo hi mx : Option AV) : Option AV :=
  match op, mx with
  | 0, _ => some (.slice b (offAt off l m s) (Nat.sub hh l) (Nat.sub m l) 0)
  | _ + 1, some _ => some (.slice b (offAt off l m s) (Nat.sub hh l) (Nat.sub m l) 0)
  | o + 1, none => Bool.rec (Bool.rec none (some (.slice b (Nat.add off (Nat.mul l s)) (Nat.sub hh l) (Nat.sub m l) (o + 1))) (Nat.beq o s)) (some .empty) (Nat.beq m l)
def sliceSl (e : Nat) (b off n cap op : Nat) (lo hi mx : Option AV) (E : Env) : Option AV :=
  match bnd mx cap, bnd hi n, bnd lo 0, E.size e with
  | some m, some hh, some l, some s => Bool.rec none (sliceOp b off l hh m s op lo hi mx) (within l hh m cap && boundsOk hi mx)
  | _, _, _, _ => none
def sliceNil (s : Option Nat) (lo hi mx : Option AV) : Option AV :=
  match bnd mx 0, bnd hi 0, bnd lo 0, s with
  | some 0, some 0, some 0, some _ => Bool.rec none (some .nilSlice) (boundsOk hi mx)
  | _, _, _, _ => none
def sliceA (E : Env) (t : TypeId) (x : AV) (lo hi mx : Option AV) : Option AV :=
  match x, E.under t with
  | .slice b off n cap op, some (.slice e) => sliceSl e b off n cap op lo hi mx E
  | .str s, some .string => sliceStr s lo hi mx
  | .ptr b off, some (.array n e) => sliceArr n e b off lo hi mx E
  | .nilSlice, some (.slice e) => sliceNil (E.size e) lo hi mx
  | _, _ => none

/-! maps -/
/-- two keys of one kind: are they the same? -/
def keyEq : AV → AV → Option Bool
  | .str a, .str b => some (natsEq a b)
  | .int k a, .int l b => if k = l then some (intEq a b) else none
  | .bool a, .bool b => some (boolEq a b)
  | .agg a, .agg b => eqScalars a b
  | _, _ => none
/-- is it a key of such a type? -/
def keyDesc (g : List AV → Bool) : TypeDesc → AV → Bool
  | .string, .str _ => true
  | .int _, .int _ _ => true
  | .bool, .bool _ => true
  | .struct _, .agg a | .array _ _, .agg a => g a && (eqScalars a a).isSome
  | _, _ => false
def keyOk (E : Env) (t : TypeId) (k : AV) : Bool :=
  match E.under t with
  | some d => keyDesc (E.eqT t) d k
  | none => false
def lookupE (k : AV) : List (AV × AV) → Option (Option AV)
  | [] => some none
  | (a, v) :: rest => match keyEq k a with
    | some true => some (some v)
    | some false => lookupE k rest
    | none => none
def isKey (k a : AV) : Bool := match keyEq k a with | some b => b | none => false
def updateE (k v : AV) : List (AV × AV) → List (AV × AV)
  | [] => []
  | (a, u) :: rest => bif isKey k a then (a, v) :: rest else (a, u) :: updateE k v rest
def removeE (k : AV) : List (AV × AV) → List (AV × AV)
  | [] => []
  | (a, u) :: rest => bif isKey k a then rest else (a, u) :: removeE k rest

def entriesOf (h : Heap) : AV → Option (List (AV × AV))
  | .nilMap => some []
  | .map r => (h.mapAt r).map (·.1)
  | _ => none
def found (ok : Bool) (z : AV) : Option AV → AV
  | some v => bif ok then .tup [v, .bool true] else v
  | none => bif ok then .tup [z, .bool false] else z
def mapTypes : TypeDesc → Option (TypeId × TypeId)
  | .map k e => some (k, e)
  | _ => none
def Env.mapT (E : Env) (t : TypeId) : Option (TypeId × TypeId) := (E.under t).bind mapTypes
def lookupZ (es : List (AV × AV)) (z : AV) (k : AV) (ok : Bool) : Option AV := (lookupE k es).map (found ok z)
def lookupA (E : Env) (t : TypeId) (x k : AV) (ok : Bool) (h : Heap) : Option AV :=
  match E.mapT t with
  | some (kt, e) =>
    match entriesOf h x, E.zero e with
    | some es, some z => Bool.rec none (lookupZ es z k ok) (keyOk E kt k)
    | _, _ => none
  | none => none

def updateM (r : Nat) (k v : AV) (h : Heap) : R :=
  match h.mapAt r with
  | some (es, m) =>
    match lookupE k es with
    | some (some _) => val undefA (h.put r (.map (updateE k v es) m))
    | some none => val undefA (h.put r (.map (es ++ [(k, v)]) (Nat.succ m)))
    | none => .bad
  | none => .bad
def updateA (E : Env) (t : TypeId) (x k v : AV) (h : Heap) : R :=
  match x, E.mapT t with
  | .map r, some (kt, _) => Bool.rec .bad (updateM r k v h) (keyOk E kt k)
  | _, _ => .bad
def deleteM (r : Nat) (k : AV) (h : Heap) : R :=
  match h.mapAt r with
  | some (es, mo) =>
    match lookupE k es with
    | some (some _) => val undefA (h.put r (.map (removeE k es) (Nat.succ mo)))
    | some none => val undefA h
    | none => .bad
  | none => .bad
def deleteA (E : Env) (t : TypeId) (m k : AV) (h : Heap) : R :=
  match m, E.mapT t with
  | .nilMap, some (kt, _) => Bool.rec .bad (val undefA h) (keyOk E kt k)
  | .map r, some (kt, _) => Bool.rec .bad (deleteM r k h) (keyOk E kt k)
  | _, _ => .bad

/-! ranging -/
def rangeA (E : Env) (t : TypeId) (x : AV) (h : Heap) : Option (AObj × (Nat → AV)) :=
  match x, E.under t with
  | .str s, some .string => some (.strIter s 0, fun id => .ptr id 0)
  | .nilMap, some (.map _ _) => some (.mapIter none 0 [], fun id => .ptr id 0)
  | .map r, some (.map _ _) => (h.mapAt r).map fun e => (.mapIter (some r) e.2 [], fun id => .ptr id 0)
  | _, _ => none

def overA (h : Heap) : R := val (.tup [.bool false]) h
def nextStr (r : Nat) (s : List Nat) (pos : Nat) (h : Heap) : R :=
  match nth s pos with
  | some c => Bool.rec .bad (val (.tup [.bool true, .int .i64 (.ofNat pos), .int .i32 (.ofNat c)]) (h.put r (.strIter s (Nat.succ pos)))) (Nat.blt c 128)
  | none => overA h
def seenK (seen : List AV) (e : AV × AV) : Bool := not (seen.any fun k => isKey k e.1)
def nextAt (r : Nat) (m : Nat) (mods : Nat) (seen : List AV) (e : Option (AV × AV)) (h : Heap) : R :=
  match e with
  | some e => val (.tup [.bool true, e.1, e.2]) (h.put r (.mapIter (some m) mods (e.1 :: seen)))
  | none => .bad
def nextOf (r : Nat) (m : Nat) (mods : Nat) (seen : List AV) (h : Heap) (l : List (AV × AV)) : R :=
  match l with
  | [] => overA h
  | [e] => nextAt r m mods seen (some e) h
  | l => .pick (len l) fun i => nextAt r m mods seen (nth l i) h
def nextMap (r : Nat) (m : Nat) (mods : Nat) (seen : List AV) (h : Heap) : R :=
  match h.mapAt m with
  | some (es, mods') => Bool.rec .bad (nextOf r m mods seen h (es.filter (seenK seen))) (Nat.beq mods' mods)
  | none => .bad
def nextO (r : Nat) (isString : Bool) (h : Heap) : AObj → R
  | .strIter s pos => Bool.rec .bad (nextStr r s pos h) isString
  | .mapIter none _ _ => Bool.rec (overA h) .bad isString
  | .mapIter (some m) mods seen => Bool.rec (nextMap r m mods seen h) .bad isString
  | _ => .bad
def nextA (it : AV) (isString : Bool) (h : Heap) : R :=
  match it with
  | .ptr r 0 => (match h.get r with | some o => nextO r isString h o | none => .bad)
  | _ => .bad
def entryO (h : Heap) : AObj → Option AV
  | .mapIter (some m) mods (k :: _) =>
    match h.mapAt m with
    | some (es, mods') => Bool.rec none ((lookupE k es).bind fun o => o.map fun v => .tup [k, v]) (Nat.beq mods' mods)
    | none => none
  | _ => none
def entryA (it : AV) (h : Heap) : Option AV :=
  match it with
  | .ptr r 0 => (h.get r).bind (entryO h)
  | _ => none

/-! builtins -/
def lenM (x : AV) (h : Heap) : Option AV :=
  match x with
  | .nilMap => some (.int .i64 (.ofNat 0))
  | .map r => (h.mapAt r).map fun e => .int .i64 (.ofNat (len e.1))
  | _ => none
def lenV (x : AV) : TypeDesc → Option AV
  | .string => match x with | .str s => some (.int .i64 (.ofNat (len s))) | _ => none
  | .slice _ => match x with | .slice _ _ n _ _ => some (.int .i64 (.ofNat n)) | .nilSlice => some (.int .i64 (.ofNat 0)) | .empty => some (.int .i64 (.ofNat 0)) | _ => none
  | .array n _ => some (.int .i64 (.ofNat n))
  | _ => none
def capV (x : AV) : TypeDesc → Option AV
  | .slice _ => match x with | .slice _ _ _ c 0 => some (.int .i64 (.ofNat c)) | .nilSlice => some (.int .i64 (.ofNat 0)) | _ => none
  | .array n _ => some (.int .i64 (.ofNat n))
  | _ => none

/-- the cells of n elements -/
def firstA (size n : Nat) (h : Heap) : AV → Option (List AV)
  | .nilSlice => some []
  | .empty => Bool.rec none (some []) (Nat.beq n 0)
  | .str s => Bool.rec none ((cut s 0 n).map toBytes) (Nat.beq size 1)
  | .slice b off _ _ _ => (h.cells b).bind fun c => cut c.1 off (Nat.mul n size)
  | _ => none
def lenOfA : AV → Option Nat
  | .slice _ _ n _ _ => some n
  | .nilSlice => some 0
  | .empty => some 0
  | .str s => some (len s)
  | _ => none

def isIntDesc : TypeDesc → Bool
  | .int _ => true
  | _ => false
def Env.isNum (E : Env) (t : Option TypeId) : Option Bool := match t with | some t => (E.under t).map isIntDesc | none => some false

def newCells (E : Env) (e : TypeId) (size : Nat) (zeros : Bool) (x : AV) (h : Heap) : Option (Nat × List AV) :=
  Bool.rec ((lenOfA x).bind fun n => (firstA size n h x).map fun l => (n, l))
    (match asN x, E.zero e with | some n, some z => Bool.rec none (some (n, rep z.cells n)) (sized z size) | _, _ => none) zeros

/-- room for what is appended -/
def appendIn (b off ln n cap op size : Nat) (new : List AV) (h : Heap) : R :=
  match n with
  | 0 => val (.slice b off ln cap op) h
  | n + 1 =>
    match h.cells b with
    | some (c, e, o) => match splice new (Nat.add off (Nat.mul ln size)) c with
      | some c' => Bool.rec .bad (val (.slice b off (Nat.add ln (n + 1)) cap op) (h.put b (.cells c' e o))) (scalars new)
      | none => .bad
    | none => .bad
def appendNew (o : Bool) (c : List AV) (eb : TypeId) (b ln n off op size e id : Nat) (new : List AV) (h : Heap) : R :=
  match cut c off (Nat.mul ln size) with
  | some old => Bool.rec .bad (val (.slice id 0 (Nat.add ln n) (Nat.add ln n) (Nat.succ size)) (Bool.rec ((h.put id (.cells (old ++ new) e true)).drop b) (h.put id (.cells (old ++ new) e true)) (Nat.beq op 0))) (Nat.beq op 0 || (Nat.beq eb e && scalars new))
  | none => .bad
def appendOut (b off ln n op size e id : Nat) (new : List AV) (h : Heap) : R :=
  match h.cells b with
  | some (c, eb, o) => appendNew o c eb b ln n off op size e id new h
  | none => .bad
def lenSl : AV → Nat
  | .slice _ _ n _ _ => n
  | _ => 0
def appendTo (s : AV) (size e id : Nat) (h : Heap) (n : Nat) (new : List AV) : R :=
  match s with
  | .nilSlice => (match n with
    | 0 => val .nilSlice h
    | n + 1 => val (.slice id 0 (n + 1) (n + 1) (Nat.succ size)) (h.put id (.cells new e true)))
  | .slice b off ln cap op => Bool.rec (appendOut b off ln n op size e id new h) (appendIn b off ln n cap op size new h) (Nat.ble (Nat.add ln n) cap)
  | _ => .bad
/-- a length that memory bears -/
def bears (n bytes : Nat) : Bool := Nat.ble (Nat.mul n bytes) 140737488355328 && Nat.ble n 1099511627776
/-- the zero cells that lie behind what is appended -/
def zeroOk (E : Env) (e size : Nat) : Bool := match E.zero e with | some z => sized z size | none => false
def appendE (E : Env) (e : TypeId) (zeros : Bool) (s x : AV) (id : Nat) (h : Heap) (ti : TypeInfo) : R :=
  match newCells E e ti.size zeros x h with
  | some (n, new) => Bool.rec .bad (appendTo s ti.size e id h n new) (bears (Nat.add (lenSl s) n) ti.bytes && zeroOk E e ti.size)
  | none => .bad
def appendZ (E : Env) (e : TypeId) (s x : AV) (id : Nat) (h : Heap) (ti : TypeInfo) : Option Bool → R
  | some z => appendE E e z s x id h ti
  | none => .bad
def appendA (E : Env) (t : TypeId) (xt : Option TypeId) (s x : AV) (id : Nat) (h : Heap) : R :=
  match E.elem t with
  | some e =>
    match E.tt.get none e with
    | some ti => appendZ E e s x id h ti (E.isNum xt)
    | none => .bad
  | none => .bad

def copyIn (b off n : Nat) (new : List AV) (h : Heap) : R :=
  match n with
  | 0 => val (.int .i64 (.ofNat 0)) h
  | n + 1 =>
    match h.cells b with
    | some (c, e, o) => match splice new off c with
      | some c' => Bool.rec .bad (val (.int .i64 (.ofNat (n + 1))) (h.put b (.cells c' e o))) (scalars new)
      | none => .bad
    | none => .bad
def copyTo (d : AV) (n : Nat) (new : List AV) (h : Heap) : R :=
  match d with
  | .slice b off _ _ _ => copyIn b off n new h
  | .nilSlice => val (.int .i64 (.ofNat 0)) h
  | _ => .bad
def copyA (E : Env) (t : TypeId) (d s : AV) (h : Heap) : R :=
  match (E.elem t).bind E.size, lenOfA d, lenOfA s with
  | some size, some dl, some sl =>
    match firstA size (Nat.min sl dl) h s with
    | some new => copyTo d (Nat.min sl dl) new h
    | none => .bad
  | _, _, _ => .bad

def max2A (a b : AV) : Option AV :=
  match a, b with
  | .int k a, .int _ b => some (.int k (bif intLt a b then b else a))
  | _, _ => none
def min2A (a b : AV) : Option AV :=
  match a, b with
  | .int k a, .int _ b => some (.int k (bif intLt b a then b else a))
  | _, _ => none
def foldA (f : AV → AV → Option AV) : AV → List AV → Option AV
  | x, [] => some x
  | x, y :: rest => (f x y).bind fun z => foldA f z rest
def fold1A (f : AV → AV → Option AV) : List AV → Option AV
  | [] => none
  | x :: rest => foldA f x rest

def invokeA (f : AV) (args : List AV) (h : Heap) : R :=
  match f with
  | .func f first captured => .ret (.enter f (first ++ args ++ captured), h)
  | .yld l => .ret (.round l args, h)
  | _ => .bad

def builtinA (b : Builtin) (E : Env) (ts : List TypeId) (args : List AV) (id : Nat) (h : Heap) : R :=
  match b, ts, args with
  | .append, t :: ts, [x, y] => appendA E t ts.head? x y id h
  | .copy, t :: _, [x, y] => copyA E t x y h
  | .delete, t :: _, [x, y] => deleteA E t x y h
  | _, _, _ => .bad

def makeSliceA (E : Env) (t : TypeId) (l c : AV) : Option (AObj × (Nat → AV)) :=
  match E.elem t, asN l, asN c with
  | some e, some l, some c =>
    match E.tt.get none e, E.zero e with
    | some ti, some z => Bool.rec none (some (.cells (rep z.cells c) e false, fun id => .slice id 0 l c 0)) (Nat.ble l c && bears c ti.bytes && sized z ti.size)
    | _, _ => none
  | _, _, _ => none

/-! indexing -/
def addrAt (b off i n e : Nat) (E : Env) : Option AV :=
  Bool.rec none ((E.size e).map fun s => .ptr b (Nat.add off (Nat.mul i s))) (Nat.blt i n)
def indexAddrA (E : Env) (t : TypeId) (x i : AV) : Option AV :=
  match x, E.under t, asN i with
  | .slice b off n _ _, some (.slice e), some i => addrAt b off i n e E
  | .ptr b off, some (.array n e), some i => addrAt b off i n e E
  | _, _, _ => none
def partA (E : Env) (t : TypeId) (cs : List AV) (off : Nat) : Option AV :=
  match E.isAgg t, E.size t with
  | some g, some n => load1 g n off (cs, 0, false)
  | _, _ => none
def indexVA (E : Env) (t : TypeId) (x i : AV) : Option AV :=
  match x, E.under t, asN i with
  | .agg cs, some (.array n e), some i => Bool.rec none ((E.size e).bind fun s => partA E e cs (Nat.mul i s)) (Nat.blt i n)
  | .str s, some .string, some i => (nth s i).map fun (c : Nat) => AV.int .u8 (.ofNat c)
  | _, _, _ => none
def operands (tm : T AV) : List Operand → List AV
  | [] => []
  | x :: xs => operand tm x :: operands tm xs

/-- the parts of a build, laid over the zero cells, one behind the other -/
def fillS (E : Env) (tm : T AV) (fs : List Field) : List (Nat × Operand) → List AV → Option (List AV)
  | [], cs => some cs
  | (i, x) :: rest, cs =>
    match nth fs i with
    | some f => Bool.rec none ((splice (operand tm x).cells f.offset cs).bind (fillS E tm fs rest)) (match E.size f.type with | some s => sized (operand tm x) s | none => false)
    | none => none
def fillE (s : Nat) (tm : T AV) : List (Nat × Operand) → List AV → Option (List AV)
  | [], cs => some cs
  | (i, x) :: rest, cs => Bool.rec none ((splice (operand tm x).cells (Nat.mul i s) cs).bind (fillE s tm rest)) (sized (operand tm x) s)

/-! operations that give a value and leave the heap alone -/
abbrev PF := Env → T AV → Option AV
abbrev RF := Env → T AV → Heap → Option AV
def pMove (x : Operand) : PF := fun _ tm => some (operand tm x)
def pick1 (t a b : AV) : Option AV := match t with | .bool t => some (Bool.rec b a t) | _ => none
def pPick (x a b : Operand) : PF := fun _ tm => pick1 (operand tm x) (operand tm a) (operand tm b)
def sizesKnown (E : Env) : List Field → Bool
  | [] => true
  | f :: fs => match E.size f.type with | some _ => sizesKnown E fs | none => false
def pBuild (t : TypeId) (parts : Array (Nat × Operand)) : PF := fun E tm =>
  match E.zero t, E.under t with
  | some z, some (.struct fs) => Bool.rec none ((fillS E tm fs.toList parts.toList z.cells).map .agg) (sizesKnown E fs.toList)
  | some z, some (.array _ e) => (match E.size e with | some s => (fillE s tm parts.toList z.cells).map .agg | none => none)
  | _, _ => none
def pLoad (t : TypeId) (a : Operand) : RF := fun E tm h => (ptrOf (operand tm a)).bind (loadA E t h)
def notNil : AV → Option AV
  | .nilPtr | .nilIface | .nilFunc | .junk => none
  | v => some v
def pNilCheck (x : Operand) : PF := fun _ tm => notNil (operand tm x)
def constO : Operand → Bool
  | .const _ => true
  | _ => false
def pBin (op : BinOp) (t : TypeId) (x y : Operand) : PF := fun E tm => binA E t (constO x || constO y) op (operand tm x) (operand tm y)
def pUn (op : UnOp) (x : Operand) : PF := fun _ tm => unA op (operand tm x)
def isIface : TypeDesc → Bool
  | .interface _ => true
  | _ => false
def pIface (t : TypeId) (x : Operand) : PF := fun E tm =>
  match E.under t with
  | some d => Bool.rec (some (.iface t (operand tm x))) none (isIface d)
  | none => none
def pFunc (fn : Fn) (first captured : Array Operand) : PF := fun _ tm =>
  match fn with
  | .func f => some (.func f (operands tm first.toList) (operands tm captured.toList))
  | _ => none
def optOperand (tm : T AV) : Option Operand → Option AV
  | none => none
  | some x => some (operand tm x)
def pSlice (t : TypeId) (x : Operand) (lo hi mx : Option Operand) : PF := fun E tm => sliceA E t (operand tm x) (optOperand tm lo) (optOperand tm hi) (optOperand tm mx)
def pFieldAddr (s : TypeId) (x : Operand) (f : Nat) : PF := fun E tm =>
  match ptrOf (operand tm x), (E.fields s).bind fun fs => nth fs f with
  | some (b, off), some fd => (match E.size fd.type with | some (_ + 1) => some (.ptr b (Nat.add off fd.offset)) | _ => none)
  | _, _ => none
def pField (t : TypeId) (x : Operand) (f : Nat) : PF := fun E tm =>
  match operand tm x, (E.fields t).bind fun fs => nth fs f with
  | .agg cs, some fd => partA E fd.type cs fd.offset
  | _, _ => none
def pIndexAddr (t : TypeId) (x i : Operand) : PF := fun E tm => indexAddrA E t (operand tm x) (operand tm i)
def pIndex (t : TypeId) (x i : Operand) : PF := fun E tm => indexVA E t (operand tm x) (operand tm i)
def pLookup (t : TypeId) (x i : Operand) (ok : Bool) : RF := fun E tm h => lookupA E t (operand tm x) (operand tm i) ok h
def xEntry (it : Operand) : Env → T AV → Nat → Heap → R := fun _ tm _ h => opt (entryA (operand tm it) h) h
def tupOf : AV → Option (List AV)
  | .tup l => some l
  | _ => none
def pExtract (x : Operand) (i : Nat) : PF := fun _ tm => (tupOf (operand tm x)).bind fun l => nth l i

/-! operations that make one block -/
abbrev AF := Env → T AV → Option (AObj × (Nat → AV))
def ptrTo (id : Nat) : AV := .ptr id 0
def aAlloc (e : TypeId) : AF := fun E _ => (E.zero e).map fun z => (.cells z.cells e false, ptrTo)
def boxed (e : TypeId) (v : AV) : Option (AObj × (Nat → AV)) :=
  match v with
  | .junk => none
  | v => some (.cells v.cells e false, ptrTo)
def aBox (e : TypeId) (x : Operand) : AF := fun _ tm => boxed e (operand tm x)
def sliceTo (n c op : Nat) (id : Nat) : AV := .slice id 0 n c op
def aBuildSlice (t : TypeId) (n : Nat) (parts : Array (Nat × Operand)) : AF := fun E tm =>
  match E.elem t with
  | some e =>
    match E.size e, E.zero e with
    | some s, some z => Bool.rec none ((fillE s tm parts.toList (rep z.cells n)).map fun cs => (.cells cs e false, sliceTo n n 0)) (sized z s && Nat.ble (Nat.mul n s) 16777216)
    | _, _ => none
  | none => none
def aMakeMap (t : TypeId) (r : Option Operand) : AF := fun E tm =>
  match E.under t, r with
  | some (.map _ _), none => some (.map [] 0, .map)
  | some (.map _ _), some x => (asI (operand tm x)).map fun _ => (.map [] 0, .map)
  | _, _ => none
def aMakeSlice (t : TypeId) (l k : Operand) : AF := fun E tm => makeSliceA E t (operand tm l) (operand tm k)
def aBytes (e : TypeId) (x : AV) (E : Env) : Option (AObj × (Nat → AV)) :=
  match x with
  | .str s => Bool.rec none (some (.cells (toBytes s) e true, sliceTo (len s) (len s) 2)) (E.byteElem e && (match E.size e with | some 1 => true | _ => false))
  | _ => none

/-! the other operations -/
abbrev XF := Env → T AV → Nat → Heap → R
def xStore (t : TypeId) (a x : Operand) : XF := fun E tm _ h =>
  match (ptrOf (operand tm a)).bind (storeA E t h (operand tm x)) with
  | some h' => val undefA h'
  | none => .bad
def xRange (t : TypeId) (x : Operand) : XF := fun E tm id h =>
  match rangeA E t (operand tm x) h with
  | some (o, f) => val (f id) (h.put id o)
  | none => .bad
def xUpdate (t : TypeId) (m k v : Operand) : XF := fun E tm _ h => updateA E t (operand tm m) (operand tm k) (operand tm v) h
def xNext (it : Operand) (s : Bool) : XF := fun _ tm _ h => nextA (operand tm it) s h
def xCallee (f : Callee) (ts : List TypeId) (args : List AV) : XF :=
  match f with
  | .builtin b => fun E _ id h => builtinA b E ts args id h
  | .value f => fun _ tm _ h => invokeA (operand tm f) args h
  | .invoke .. => fun _ _ _ _ => .bad
def xCall (k : Call) : XF := fun E tm id h => xCallee k.callee k.argTypes.toList (operands tm k.args.toList) E tm id h
def deferA (f : AV) (args : List AV) (h : Heap) : R :=
  match f with
  | .func f first captured => .ret (.defer (.call f (first ++ args ++ captured)), h)
  | _ => .bad
def xDefer (k : Call) : XF := fun _ tm _ h =>
  match k.callee with
  | .value f => deferA (operand tm f) (operands tm k.args.toList) h
  | _ => .bad

/-- what an operation is: a value · a value that it reads in the heap, behind an operand · a new block · the rest -/
inductive DO where
  | pv (f : PF)
  | rd (x : Operand) (f : RF)
  | al (f : AF)
  | full (f : XF)
  | no

def convD (src dst : TypeId) (x : Operand) (a b : Option TypeDesc) : DO :=
  match a, b with
  | some (.slice e), some .string => .rd x fun E tm h => convText (operand tm x) e E h
  | some (.slice _), some (.slice e) => .full fun E tm _ h => opt (convSlices src dst (operand tm x) e E h) h
  | some .string, some (.slice e) => .al fun E tm => aBytes e (operand tm x) E
  | some _, some d => .pv fun _ tm => convNum (operand tm x) d
  | _, _ => .no
def lenD (t : TypeId) (x : Operand) (d : Option TypeDesc) : DO :=
  match d with
  | some (.map _ _) => .rd x fun _ tm h => lenM (operand tm x) h
  | some d => .pv fun _ tm => lenV (operand tm x) d
  | none => .no
def builtinD (b : Builtin) (c : Call) (E : Env) (ts : List TypeId) (l : List Operand) : DO :=
  match b, ts, l with
  | .len, t :: _, [x] => lenD t x (E.under t)
  | .cap, t :: _, [x] => .pv fun E tm => (E.under t).bind (capV (operand tm x))
  | .max, _, [x, y] => .pv fun _ tm => max2A (operand tm x) (operand tm y)
  | .min, _, [x, y] => .pv fun _ tm => min2A (operand tm x) (operand tm y)
  | .recover, _, [] => .full fun _ _ _ h => val .nilIface h
  | .append, _, [_, _] => .full (xCall c)
  | .copy, _, [_, _] => .full (xCall c)
  | .delete, _, [_, _] => .full (xCall c)
  | _, _, _ => .no
def callD (E : Env) (c : Call) : DO :=
  match c.callee with
  | .builtin b => builtinD b c E c.argTypes.toList c.args.toList
  | .value _ => .full (xCall c)
  | .invoke .. => .no

/-- one operation -/
def doOp (o : Op) : Env → DO :=
  match o with
  | .move x => fun _ => .pv (pMove x)
  | .assign x => fun _ => .pv (pMove x)
  | .pick c a b => fun _ => .pv (pPick c a b)
  | .alloc e => fun _ => .al (aAlloc e)
  | .box e x => fun _ => .al (aBox e x)
  | .build t ps => fun _ => .pv (pBuild t ps)
  | .buildSlice t n ps => fun _ => .al (aBuildSlice t n ps)
  | .insert t m k v => fun _ => .full (xUpdate t m k v)
  | .load t a => fun _ => .rd a (pLoad t a)
  | .store t a x => fun _ => .full (xStore t a x)
  | .nilCheck x => fun _ => .pv (pNilCheck x)
  | .binOp op t x y _ => fun _ => .pv (pBin op t x y)
  | .unOp op _ x => fun _ => .pv (pUn op x)
  | .convert s d x => fun E => convD s d x (E.under s) (E.under d)
  | .makeInterface t x => fun _ => .pv (pIface t x)
  | .makeFunc fn a b => fun _ => .pv (pFunc fn a b)
  | .makeMap t r => fun _ => .al (aMakeMap t r)
  | .makeSlice t l c => fun _ => .al (aMakeSlice t l c)
  | .slice t x lo hi mx => fun _ => .pv (pSlice t x lo hi mx)
  | .fieldAddr s x f => fun _ => .pv (pFieldAddr s x f)
  | .field s x f => fun _ => .pv (pField s x f)
  | .indexAddr t x i => fun _ => .pv (pIndexAddr t x i)
  | .index t x i => fun _ => .pv (pIndex t x i)
  | .lookup t x i ok => fun _ => .rd x (pLookup t x i ok)
  | .mapUpdate t m k v => fun _ => .full (xUpdate t m k v)
  | .range t x => fun _ => .full (xRange t x)
  | .next it s => fun _ => .full (xNext it s)
  | .entry it => fun _ => .full (xEntry it)
  | .extract x i => fun _ => .pv (pExtract x i)
  | .call k => fun E => callD E k
  | .defer k => fun _ => .full (xDefer k)
  | _ => fun _ => .no

end
end Go.Ab
end
