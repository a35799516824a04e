/- The abstract machine: frames, regions, calls. The relation between the abstract machine's data and the model's. Conditions: none. -/
import Derived.Test.YtbclmkfibgmgdaaGreatDoorRdVA
section
namespace Go.Ab
set_option linter.unusedVariables false
noncomputable section

/-! two outcomes that are alike but for the numbers of what was made -/
structure Iso where
  n0 : Nat
  fwd : T (Option Nat)
  bwd : T (Option Nat)
  pairs : List (Nat × Nat)
  todo : List (Nat × Nat)

def isoNew (s : Iso) (a b : Nat) : Option Iso :=
  match s with
  | ⟨n0, fwd, bwd, pairs, todo⟩ =>
    bif Nat.blt a 131072 && Nat.blt b 131072 then (match bwd.get none b with
    | some _ => none
    | none => some ⟨n0, fwd.set a (some b), bwd.set b (some a), (a, b) :: pairs, (a, b) :: todo⟩) else none
def isoB (s : Iso) (a b : Nat) : Option Iso :=
  match s with
  | ⟨n0, fwd, bwd, pairs, todo⟩ =>
    bif Nat.blt a n0 then (bif Nat.beq a b then some ⟨n0, fwd, bwd, pairs, todo⟩ else none) else
    bif Nat.blt b n0 then none else
    match fwd.get none a with
    | some b' => bif Nat.beq b' b then some ⟨n0, fwd, bwd, pairs, todo⟩ else none
    | none => isoNew ⟨n0, fwd, bwd, pairs, todo⟩ a b

mutual
def isoV (s : Iso) : AV → AV → Option Iso
  | .ptr a o, .ptr b p => bif Nat.beq o p then isoB s a b else none
  | .slice a o l c x, .slice b p l' c' x' => bif Nat.beq o p && Nat.beq l l' && Nat.beq c c' && Nat.beq x x' then isoB s a b else none
  | .map a, .map b => isoB s a b
  | .func f a b, .func g c d => bif Nat.beq f g then (match isoL s a c with | some s => isoL s b d | none => none) else none
  | .iface t v, .iface u w => bif Nat.beq t u then isoV s v w else none
  | .agg a, .agg b => isoL s a b
  | .tup a, .tup b => isoL s a b
  | .bool a, .bool b => bif boolEq a b then some s else none
  | .int k a, .int l b => bif decide (k = l) && intEq a b then some s else none
  | .str a, .str b => bif natsEq a b then some s else none
  | .nilPtr, .nilPtr => some s
  | .nilSlice, .nilSlice => some s
  | .nilMap, .nilMap => some s
  | .nilFunc, .nilFunc => some s
  | .nilIface, .nilIface => some s
  | _, _ => none
def isoL (s : Iso) : List AV → List AV → Option Iso
  | [], [] => some s
  | a :: x, b :: y => match isoV s a b with | some s => isoL s x y | none => none
  | _, _ => none
end

def isoE (s : Iso) : List (AV × AV) → List (AV × AV) → Option Iso
  | [], [] => some s
  | [], _ :: _ => none
  | (k, v) :: rest, es => match lookupE k es with
    | some (some w) => (match isoV s v w with | some s => isoE s rest (removeE k es) | none => none)
    | _ => none

def isoO (s : Iso) : AObj → AObj → Option Iso
  | .cells c e o, .cells c' e' o' => bif Nat.beq e e' && boolEq o o' then isoL s c c' else none
  | .map es m, .map es' m' => bif Nat.beq m m' then isoE s es es' else none
  | .deferred false [], .deferred false [] => some s
  | .deferred true [], .deferred true [] => some s
  | _, _ => none

def isoRun (ha hb : Heap) : Nat → Iso → Option Iso
  | 0, _ => none
  | _ + 1, ⟨n0, fwd, bwd, pairs, []⟩ => some ⟨n0, fwd, bwd, pairs, []⟩
  | n + 1, ⟨n0, fwd, bwd, pairs, (a, b) :: rest⟩ =>
      match ha.get a, hb.get b with
      | some x, some y => (match isoO ⟨n0, fwd, bwd, pairs, rest⟩ x y with | some s => isoRun ha hb n s | none => none)
      | _, _ => none

def isoOld1 (s : Iso) : Option AObj → Option AObj → Option Iso
  | some x, some y => isoO s x y
  | none, none => some s
  | _, _ => none
def isoOld (ha hb : Heap) : List Nat → Iso → Option Iso
  | [], s => some s
  | a :: rest, s =>
    bif Nat.blt a s.n0 then (match isoOld1 s (ha.get a) (hb.get a) with | some s => isoOld ha hb rest s | none => none)
    else isoOld ha hb rest s

def firstsBelow (n : Nat) : List (Nat × Nat) → Bool
  | [] => true
  | p :: rest => bif Nat.blt p.1 n then firstsBelow n rest else false
def isoEnd (n : Nat) (s : Iso) : Option (List (Nat × Nat)) := match s with | ⟨n0, _, _, pairs, _⟩ => bif Nat.ble n0 n && firstsBelow n pairs then some pairs else none
def isoOut (n0 : Nat) (l : List Nat) (a b : AV × Heap) : Option (List (Nat × Nat)) :=
  match isoV ⟨n0, .full none 17, .full none 17, [], []⟩ a.1 b.1 with
  | none => none
  | some s => (isoOld a.2 b.2 l s).bind fun s => (isoRun a.2 b.2 10000 s).bind (isoEnd a.2.next)

def leaves {β : Type} : Nat → CT β → Option (List β)
  | _, .ret b => some [b]
  | _, .bad => none
  | 0, .pick _ _ => none
  | d + 1, .pick n k => (List.range n).foldr (fun i acc => match leaves d (k i), acc with | some l, some r => some (l ++ r) | _, _ => none) (some [])

def tagged : List (Nat × Nat) → T (Option Nat) → T (Option Nat)
  | [], t => t
  | p :: rest, t => tagged rest (t.set p.1 (some 0))
def covers (new : T (Option Nat)) : List (Nat × Nat) → Bool
  | [] => true
  | p :: rest => match new.get none p.1 with
    | some _ => covers new rest
    | none => false

/-- the numbers of old blocks, each once -/
def oldIds (n0 : Nat) : List Nat → T (Option Nat) → List Nat
  | [], _ => []
  | a :: rest, t => bif Nat.blt a n0 then (match t.get none a with | some _ => oldIds n0 rest t | none => a :: oldIds n0 rest (t.set a (some 0))) else oldIds n0 rest t
def allLogs : List (AV × Heap) → List Nat
  | [] => []
  | x :: rest => x.2.log ++ allLogs rest

def alike (n0 : Nat) (l : List Nat) (x : AV × Heap) : List (AV × Heap) → Option (List (Nat × Nat)) → Option (List (Nat × Nat))
  | [], p => p
  | y :: ys, none => (match isoOut n0 l x y with | some p => alike n0 l x ys (some p) | none => none)
  | y :: ys, some p => match isoOut n0 l x y with
    | some q => bif covers (tagged q (.full none 17)) p then alike n0 l x ys (some p) else none
    | none => none

/-- of an outcome's heap: the old blocks that some outcome touched, the new ones that are reached -/
def takeOld (h : Heap) : List Nat → T (Option AObj) → T (Option AObj)
  | [], t => t
  | a :: rest, t => takeOld h rest (t.set a (h.get a))
def takeNew (h : Heap) : List (Nat × Nat) → T (Option AObj) → T (Option AObj)
  | [], t => t
  | p :: rest, t => takeNew h rest (t.set p.1 (h.get p.1))
def firsts : List (Nat × Nat) → List Nat
  | [] => []
  | p :: rest => p.1 :: firsts rest

def relog (h0 : Heap) (x : AV × Heap) : CT (AV × Heap) := match x with | (v, ⟨t, n, l⟩) => .ret (v, ⟨t, n, l ++ h0.log⟩)
def mergeX (h0 : Heap) (x : AV × Heap) (l : List Nat) : Option (List (Nat × Nat)) → CT (AV × Heap)
  | some p => .ret (x.1, ⟨takeNew x.2 p (takeOld x.2 l h0.t), x.2.next, l ++ (firsts p ++ h0.log)⟩)
  | none => .bad
def mergeO (h0 : Heap) (x : AV × Heap) (rest : List (AV × Heap)) (l : List Nat) : CT (AV × Heap) := mergeX h0 x l (alike h0.next l x rest none)
def mergeL (h0 : Heap) : Option (List (AV × Heap)) → CT (AV × Heap)
  | some (x :: rest) => mergeO h0 x rest (oldIds h0.next (allLogs (x :: rest)) (.full none 17))
  | _ => .bad
def mergeC (h0 : Heap) (c : CT (AV × Heap)) : CT (AV × Heap) :=
  match c with
  | .ret x => relog h0 x
  | .bad => .bad
  | .pick n k => mergeL h0 (leaves 12 (.pick n k))
def merge (h0 : Heap) (run : Heap → CT (AV × Heap)) : CT (AV × Heap) := mergeC h0 (run ⟨h0.t, h0.next, []⟩)

/-! frames -/
structure FC where
  fn : FuncId
  nt : Nat
  round : Option Nat

abbrev Out := CT (AV × Heap)
/-- a frame run to its end -/
abbrev Rec := FC → T AV → List Item → List ADef → Heap → Out
/-- the frame at hand gone on with -/
abbrev KF := T AV → List Item → List ADef → Heap → Out
abbrev KO := T AV → List ADef → Heap → Out
abbrev KV := AV → Heap → Out

def CT.andThen (m : Out) (k : KV) : Out := m.bind fun x => match x with | (v, h) => k v h

def depthOf (n : Nat) : Nat := bif Nat.ble n 16 then 4 else bif Nat.ble n 64 then 6 else bif Nat.ble n 256 then 8 else 12
def enterF (rec : Rec) (f : FuncId) (args : List AV) (h : Heap) (nt : Nat) : Option Code → Out
  | some c => Bool.rec .bad (rec ⟨f, nt, none⟩ (T.sets args 0 (.full undefA (depthOf nt))) [.code c] [] h) (Nat.ble (len args) nt && Nat.ble nt 4096)
  | none => .bad
def enterA (rec : Rec) (f : FuncId) (args : List AV) (h : Heap) : Option Func → Out
  | some fn => enterF rec f args h fn.ntmps fn.body
  | none => .bad
def callN (E : Env) (rec : Rec) (f : FuncId) (args : List AV) (h : Heap) : Out :=
  Bool.rec (enterA rec f args h (E.ft.get none f)) (merge h fun h => enterA rec f args h (E.ft.get none f)) (E.fork f)
def told : Option (AV × Heap) → Out
  | some x => .ret x
  | none => .bad
def callS (E : Env) (rec : Rec) (f : FuncId) (args : List AV) (h : Heap) : Option (List AV → Heap → Option (AV × Heap)) → Out
  | none => callN E rec f args h
  | some S => told (S args h)
def callA (E : Env) (rec : Rec) (f : FuncId) (args : List AV) (h : Heap) : Out := callS E rec f args h (E.sum f)

def setParams (nt : Nat) : List Nat → List AV → T AV → Option (T AV)
  | p :: ps, a :: as, tm => Bool.rec none (setParams nt ps as (tm.set p a)) (Nat.blt p nt)
  | [], [], tm => some tm
  | _, _, _ => none

structure LoopO where
  st : LoopState
  pend : Option Code
  fn : FuncId
  tm : T AV
  nt : Nat
  ps : List Nat
  assign : Code
  body : Code
  defers : Nat
def loopOf : AObj → Option LoopO
  | .loop a b c d e f g i j => some ⟨a, b, c, d, e, f, g, i, j⟩
  | _ => none
def Heap.loopAt (h : Heap) (l : Nat) : Option LoopO := (h.get l).bind loopOf

def roundL (rec : Rec) (l : Nat) (args : List AV) (h : Heap) : Option LoopO → Out
  | some ⟨_, _, fn, tm, nt, ps, assign, body, _⟩ =>
    match setParams nt ps args tm with
    | some tm => rec ⟨fn, nt, some l⟩ tm [.code assign, .beginRound, .code body] [] h
    | none => .bad
  | none => .bad
def roundA (rec : Rec) (l : Nat) (args : List AV) (h : Heap) : Out := roundL rec l args h (h.loopAt l)

def isWanted (want : Bool) (v : AV) : Option Bool :=
  match v with
  | .bool b => some (boolEq b want)
  | .junk => none
  | _ => some false
def wantedG (ops : List Oper) (tm : T AV) (j : Nat) (want : Bool) : Option Bool :=
  match (nth ops j).bind (·.dst) with
  | some d => isWanted want (tm.get undefA d)
  | none => some false

def putK (nt : Nat) (dst : Option Nat) (k : KO) (tm : T AV) (ds : List ADef) (v : AV) (h : Heap) : Out :=
  match dst with
  | none => k tm ds h
  | some d => Bool.rec .bad (k (tm.set d v) ds h) (Nat.blt d nt)
def putO (nt : Nat) (dst : Option Nat) (k : KO) (tm : T AV) (ds : List ADef) (h : Heap) : Option AV → Out
  | some v => putK nt dst k tm ds v h
  | none => .bad

/-- what an operation's results come to: where a call is made, it is made -/
def followA (E : Env) (rec : Rec) (k : KV) (kd : ADef → Heap → Out) (x : OR × Heap) : Out :=
  match x with
  | (.val v, h) => k v h
  | (.enter f args, h) => (callA E rec f args h).andThen k
  | (.round l args, h) => (roundA rec l args h).andThen k
  | (.defer d, h) => kd d h

def deferK (fc : FC) (dst : Option Nat) (k : KO) (tm : T AV) (ds : List ADef) (d : ADef) (h : Heap) : Out :=
  match fc with
  | ⟨_, nt, none⟩ => putK nt dst k tm (d :: ds) undefA h
  | _ => .bad

/-- one operation of a region that does not draw -/
def stepDO (d : DO) : Env → Rec → FC → Option Nat → KO → T AV → List ADef → Heap → Out :=
  match d with
  | .pv f => fun E _ fc dst k tm ds h => putO fc.nt dst k tm ds h (f E tm)
  | .rd _ f => fun E _ fc dst k tm ds h => putO fc.nt dst k tm ds h (f E tm h)
  | .al f => fun E _ fc dst k tm ds h =>
    match f E tm, h with
    | some (o, g), ⟨t, n, l⟩ => putK fc.nt dst k tm ds (g n) ⟨t.set n (some o), Nat.succ n, n :: l⟩
    | none, _ => .bad
  | .full f => fun E rec fc dst k tm ds h =>
    match h with
    | ⟨t, n, l⟩ => (f E tm n ⟨t, Nat.succ n, l⟩).bind (followA E rec (putK fc.nt dst k tm ds) (deferK fc dst k tm ds))
  | .no => fun _ _ _ _ _ _ _ _ => .bad
def stepWanted (ops : List Oper) (g : Option (Nat × Bool)) (tm : T AV) (yes no : Out) : Out :=
  match g with
  | none => yes
  | some (j, want) =>
    match wantedG ops tm j want with
    | some b => Bool.rec no yes b
    | none => .bad
def stepOp (E : Env) (rec : Rec) (fc : FC) (ops : List Oper) (o : Oper) (k : KO) (tm : T AV) (ds : List ADef) (h : Heap) : Out :=
  stepWanted ops o.guard tm (stepDO (doOp o.op E) E rec fc o.dst k tm ds h) (putK fc.nt o.dst k tm ds undefA h)
def runOps (E : Env) (rec : Rec) (fc : FC) (ops : List Oper) (k : KO) (l : List Oper) : KO :=
  List.rec k (fun o _ ih tm ds h => stepOp E rec fc ops o ih tm ds h) l

/-! regions that draw their order -/
def addrOf : AV → Option Nat
  | .ptr b _ => some b
  | .slice b .. => some b
  | .map b => some b
  | _ => none

def ancOf (done : T Nat) (l : List Edge) : Nat :=
  l.foldl (fun s e => bif Region.binds .any e then Nat.lor (Nat.lor s (Nat.shiftLeft 1 e.on)) (done.get 0 e.on) else s) 0
/-- an operation, its number, what is ahead of it -/
structure Tr where
  i : Nat
  o : Oper
  m : Nat
def trs : List Oper → Nat → T Nat → List Tr
  | [], _, _ => []
  | o :: rest, i, done => ⟨i, o, ancOf done o.after.toList⟩ :: trs rest (Nat.succ i) (done.set i (ancOf done o.after.toList))
def inOrd (l : List Tr) : List Nat → List Tr
  | [] => []
  | i :: r => match nth l i with
    | some t => t :: inOrd l r
    | none => inOrd l r
def ordered (l : List Tr) (o : List Nat) : List Tr :=
  match o with
  | [] => l
  | i :: r => inOrd l (i :: r)

def sameE : List (AV × AV) → List (AV × AV) → Bool
  | [], [] => true
  | (k, v) :: x, (k', v') :: y => AV.beq k k' && AV.beq v v' && sameE x y
  | _, _ => false
def sameO : AObj → AObj → Bool
  | .cells c e o, .cells c' e' o' => AV.beqL c c' && Nat.beq e e' && boolEq o o'
  | .map es m, .map es' m' => Nat.beq m m' && sameE es es'
  | _, _ => false
def sameAt (o : AObj) (x : Option AObj) : Bool := match x with | some y => sameO y o | none => false

def bitAt (m i : Nat) : Bool := Nat.beq (Nat.mod (Nat.shiftRight m i) 2) 1

structure DS where
  tm : T AV
  h : Heap
  effs : List Nat
  allocs : List Nat
  snaps : List Heap
  reads : List (Nat × Nat × AObj)

/-- an operation's number, what is ahead of it, where the numbers of what is made begin -/
structure DX where
  i : Nat
  m : Nat
  base : Nat

abbrev KD := DS → Out
def dPut (nt : Nat) (dst : Option Nat) (k : KD) (s : DS) (v : AV) (h : Heap) : Out :=
  match s with
  | ⟨tm, _, effs, allocs, snaps, reads⟩ =>
    match dst with
    | none => k ⟨tm, h, effs, allocs, snaps, reads⟩
    | some d => Bool.rec .bad (k ⟨tm.set d v, h, effs, allocs, snaps, reads⟩) (Nat.blt d nt)
def dPutO (nt : Nat) (dst : Option Nat) (k : KD) (s : DS) (h : Heap) : Option AV → Out
  | some v => dPut nt dst k s v h
  | none => .bad
def countLate (m : Nat) : List Nat → Nat
  | [] => 0
  | i :: l => bif bitAt m i then countLate m l else Nat.succ (countLate m l)
def readOk (late : Nat) (snaps : List Heap) (b : Nat) (o : AObj) : Bool := (snaps.take (Nat.succ late)).all fun hs => sameAt o (hs.get b)
def drawRead (nt : Nat) (dst : Option Nat) (k : KD) (x : DX) (s : DS) (v : Option AV) (b : Option Nat) : Out :=
  match s, b with
  | ⟨tm, h, effs, allocs, snaps, reads⟩, some b =>
    match h.get b with
    | some o => Bool.rec .bad (dPutO nt dst k ⟨tm, h, effs, allocs, snaps, (x.i, b, o) :: reads⟩ h v) (readOk (countLate x.m effs) snaps b o)
    | none => .bad
  | ⟨tm, h, effs, allocs, snaps, reads⟩, none => dPutO nt dst k ⟨tm, h, effs, allocs, snaps, reads⟩ h v
def drawEff (nt : Nat) (dst : Option Nat) (k : KD) (x : DX) (s : DS) (v : AV) (h : Heap) : Out :=
  match s with
  | ⟨tm, _, effs, allocs, snaps, reads⟩ =>
    Bool.rec .bad (dPut nt dst k ⟨tm, h, x.i :: effs, allocs, h :: snaps, reads⟩ v h) (reads.all fun r => bitAt x.m r.1 || sameAt r.2.2 (h.get r.2.1))
def isCells : AObj → Bool
  | .cells .. => true
  | _ => false
def retOnly (m : CT (OR × Heap)) (k : OR × Heap → Out) : Out := m.bind k
def noDefer (_ : ADef) (_ : Heap) : Out := .bad
/-- the outcome, if it is one and no more -/
def only (m : Out) (k : KV) : Out :=
  match m with
  | .ret (v, h) => k v h
  | _ => .bad
def drawFull (E : Env) (rec : Rec) (f : XF) (x : DX) (tm : T AV) (h : Heap) : Out :=
  (f E tm (Nat.add x.base x.i) h).bind (followA E rec (fun v h => .ret (v, h)) noDefer)
def drawDO (d : DO) : Env → Rec → Nat → Option Nat → KD → DX → DS → Out :=
  match d with
  | .pv f => fun E _ nt dst k x s => match s with | ⟨tm, h, effs, allocs, snaps, reads⟩ => dPutO nt dst k ⟨tm, h, effs, allocs, snaps, reads⟩ h (f E tm)
  | .rd a f => fun E _ nt dst k x s => match s with | ⟨tm, h, effs, allocs, snaps, reads⟩ => drawRead nt dst k x ⟨tm, h, effs, allocs, snaps, reads⟩ (f E tm h) (addrOf (operand tm a))
  | .al f => fun E _ nt dst k x s =>
    match s with
    | ⟨tm, ⟨t, n, l⟩, effs, allocs, snaps, reads⟩ =>
      match f E tm with
      | some (o, g) => Bool.rec .bad (dPut nt dst k ⟨tm, ⟨t, n, l⟩, effs, x.i :: allocs, snaps, reads⟩ (g (Nat.add x.base x.i)) ⟨t.set (Nat.add x.base x.i) (some o), n, Nat.add x.base x.i :: l⟩) (effs.all (bitAt x.m) || isCells o)
      | none => .bad
  | .full f => fun E rec nt dst k x s =>
    match s with
    | ⟨tm, h, effs, allocs, snaps, reads⟩ =>
      Bool.rec .bad (only (drawFull E rec f x tm h) (drawEff nt dst k x ⟨tm, h, effs, allocs, snaps, reads⟩)) (effs.all (bitAt x.m) && allocs.all (bitAt x.m))
  | .no => fun _ _ _ _ _ _ _ => .bad
def drawOp (E : Env) (rec : Rec) (nt : Nat) (ops : List Oper) (o : Oper) (k : KD) (x : DX) (s : DS) : Out :=
  match s with
  | ⟨tm, h, effs, allocs, snaps, reads⟩ =>
    stepWanted ops o.guard tm (drawDO (doOp o.op E) E rec nt o.dst k x ⟨tm, h, effs, allocs, snaps, reads⟩) (dPut nt o.dst k ⟨tm, h, effs, allocs, snaps, reads⟩ undefA h)
def drawOps (E : Env) (rec : Rec) (nt : Nat) (ops : List Oper) (base : Nat) (k : KD) : List Tr → KD
  | [] => k
  | ⟨i, o, m⟩ :: rest => fun s => drawOp E rec nt ops o (drawOps E rec nt ops base k rest) ⟨i, m, base⟩ s

/-! leaving a frame -/
def resultA (E : Env) (tm : T AV) (h : Heap) (r : ResultVar) : Option AV :=
  match r with
  | .tmp t => some (tm.get undefA t)
  | .cell a t => (ptrOf (tm.get undefA a)).bind (loadA E t h)
def resultsL (E : Env) (tm : T AV) (h : Heap) : List ResultVar → Option (List AV)
  | [] => some []
  | r :: rs => match resultA E tm h r, resultsL E tm h rs with
    | some v, some l => some (v :: l)
    | _, _ => none
def oneOrTup : List AV → AV
  | [v] => v
  | l => .tup l
def resultsF (E : Env) (tm : T AV) (h : Heap) : Option Func → Out
  | some fn => match resultsL E tm h fn.results.toList with
    | some l => .ret (oneOrTup l, h)
    | none => .bad
  | none => .bad

def deferredOf : AObj → Option (List ADef)
  | .deferred false l => some l
  | _ => none
def unwindA (E : Env) (rec : Rec) (fn : FuncId) (tm : T AV) : Nat → List ADef → Heap → Out
  | 0, _, _ => .bad
  | _ + 1, [], h => resultsF E tm h (E.ft.get none fn)
  | n + 1, .coll r :: ds, h =>
    match (h.get r).bind deferredOf with
    | some l => unwindA E rec fn tm n (l ++ ds) (h.put r (.deferred true []))
    | none => .bad
  | n + 1, .call f args :: ds, h => (callN E rec f args h).andThen fun _ h => unwindA E rec fn tm n ds h

def isRet : Option Code → Bool
  | none => true
  | some .ret => true
  | _ => false
def leaveRound (jump : Option Code) (l : Nat) (h : Heap) : Option LoopO → Out
  | some ⟨_, _, fn, tm, nt, ps, a, b, d⟩ => .ret (.bool jump.isNone, h.put l (.loop (bif jump.isNone then .ready else .done) jump fn tm nt ps a b d))
  | none => .bad
def leaveA (jump : Option Code) (E : Env) (rec : Rec) (fc : FC) (tm : T AV) (ds : List ADef) (h : Heap) : Out :=
  match fc with
  | ⟨fn, _, none⟩ => Bool.rec .bad (unwindA E rec fn tm 64 ds h) (isRet jump)
  | ⟨_, _, some l⟩ => leaveRound jump l h (h.loopAt l)

/-! statements -/
abbrev SF := Env → Rec → FC → KF → T AV → List ADef → Heap → Out
def sTo (td : List Item) : SF := fun _ _ _ k tm ds h => k tm td ds h
def condK (a b : Code) (td : List Item) (k : KF) (tm : T AV) (ds : List ADef) (h : Heap) (c : AV) : Out :=
  match c with
  | .bool t => k tm (.code (Bool.rec b a t) :: td) ds h
  | _ => .bad
def sCond (c : Operand) (a b : Code) (td : List Item) : SF := fun _ _ _ k tm ds h => condK a b td k tm ds h (operand tm c)
def sJump (jump : Code) (td : Option (List Item)) : SF :=
  match td with
  | some td => sTo td
  | none => leaveA (some jump) |> fun f E rec fc _ tm ds h => f E rec fc tm ds h
def sLeave (jump : Option Code) : SF := fun E rec fc _ tm ds h => leaveA jump E rec fc tm ds h
def sRegion (ops : List Oper) (td : List Item) : SF := fun E rec fc k tm ds h => runOps E rec fc ops (fun tm ds h => k tm td ds h) ops tm ds h
def behindDraw (k : KF) (td : List Item) (ds : List ADef) (s : DS) : Out :=
  match s with
  | ⟨tm, h, _, _, _, _⟩ => k tm td ds h
def sDraw (id : Nat) (ops : List Oper) (td : List Item) : SF := fun E rec fc k tm ds h =>
  match h with
  | ⟨t, n, l⟩ => drawOps E rec fc.nt ops n (behindDraw k td ds) (ordered (trs ops 0 (.full 0 8)) (E.ord fc.fn id)) ⟨tm, ⟨t, Nat.add n (len ops), l⟩, [], [], [⟨t, n, l⟩], []⟩

def openLoop (rd : Option Nat) (t : T (Option AObj)) (n : Nat) (l : List Nat) : Option (Nat × List ADef × Heap) :=
  match rd with
  | none => some (n, [.coll n], ⟨t.set n (some (.deferred false [])), Nat.add n 2, n :: l⟩)
  | some r => match Heap.loopAt ⟨t, n, l⟩ r with
    | some ⟨_, _, _, _, _, _, _, _, d⟩ => some (d, [], ⟨t, Nat.add n 2, l⟩)
    | none => none
def isBusy : LoopState → Bool
  | .busy => true
  | _ => false
def closeLoop (l : Nat) (td : List Item) (k : KF) (tm : T AV) (ds : List ADef) (h : Heap) : Option LoopO → Out
  | some ⟨st, pend, fn', tm', nt', ps, a, b, d⟩ =>
    Bool.rec (k tm ((pend.map Item.code).toList ++ td) ds (h.put l (.loop .exhausted pend fn' tm' nt' ps a b d))) .bad (isBusy st)
  | none => .bad
def callLoop (fv : AV) (l : Nat) (E : Env) (rec : Rec) (h : Heap) : Out :=
  match fv with
  | .func f first captured => callA E rec f (first ++ [.yld l] ++ captured) h
  | .yld m => roundA rec m [.yld l] h
  | _ => .bad
def sRange (f : Operand) (params : Array Tmp) (assign body : Code) (td : List Item) : SF := fun E rec fc k tm ds h =>
  match h with
  | ⟨t, n, l⟩ =>
    match openLoop fc.round t n l with
    | some (d, mark, h1) =>
      (callLoop (operand tm f) (Nat.succ n) E rec (h1.put (Nat.succ n) (.loop .ready none fc.fn tm fc.nt params.toList assign body d))).andThen fun _ h =>
        closeLoop (Nat.succ n) td k tm (mark ++ ds) h (h.loopAt (Nat.succ n))
    | none => .bad
def isReady : LoopState → Bool
  | .ready => true
  | _ => false
def beginL (l : Nat) (td : List Item) (k : KF) (tm : T AV) (ds : List ADef) (h : Heap) : Option LoopO → Out
  | some ⟨st, pend, fn', tm', nt', ps, a, b, d⟩ => Bool.rec .bad (k tm td ds (h.put l (.loop .busy pend fn' tm' nt' ps a b d))) (isReady st)
  | none => .bad
def sBegin (td : List Item) : SF := fun _ _ fc k tm ds h =>
  match fc with
  | ⟨_, _, some l⟩ => beginL l td k tm ds h (h.loopAt l)
  | _ => .bad
def sBad : SF := fun _ _ _ _ _ _ _ => .bad

def stepCode (c : Code) : List Item → SF :=
  match c with
  | .skip => sTo
  | .label _ => sTo
  | .ret => fun _ => sLeave (some .ret)
  | .seq a b => fun k => sTo (.code a :: .code b :: k)
  | .cond c a b => sCond c a b
  | .block id b => fun k => sTo (.code b :: .inBlock id :: k)
  | .loop b => fun k => sTo (.code b :: .inLoop b :: k)
  | .scope b => fun k => sTo (.code b :: .inScope b :: k)
  | .exit id => fun k => sJump (.exit id) (exitTo id k)
  | .goto l => fun k => sJump (.goto l) (gotoIn l k)
  | .region id ops draw => Bool.rec (sRegion ops.toList) (sDraw id ops.toList) draw
  | .rangeFunc f ps a b => sRange f ps a b
  | .refuse _ => fun _ => sBad
def stepItem (i : Item) : List Item → SF :=
  match i with
  | .code c => stepCode c
  | .inBlock _ => sTo
  | .inScope _ => sTo
  | .inLoop b => fun k => sTo (.code b :: .inLoop b :: k)
  | .beginRound => sBegin
  | _ => fun _ => sBad
def stepTodo (l : List Item) : SF :=
  match l with
  | [] => sLeave none
  | i :: k => stepItem i k

def loopF (E : Env) (rec : Rec) (fc : FC) (n : Nat) : KF :=
  Nat.rec (fun _ _ _ _ => .bad) (fun _ k tm td ds h => stepTodo td E rec fc k tm ds h) n
def runFr (E : Env) (n d : Nat) : Rec := Nat.rec (fun _ _ _ _ _ => .bad) (fun _ rec fc tm td ds h => loopF E rec fc n tm td ds h) d

def call (E : Env) (n depth : Nat) (f : FuncId) (args : List AV) (h : Heap) : Out := callN E (runFr E n depth) f args h

end
end Go.Ab
end
section
namespace Go.Ab

/-- where an abstract block lies: the model's block, by how much its cells are shifted, how many elements more it has room for than the abstract one knows,
the abstract one's cells, the cells of an element, whether it may have such room -/
structure Pl where
  blk : Nat
  sh : Nat
  ext : Nat
  tot : Nat
  esz : Nat
  op : Bool

abbrev Mu := Nat → Option Pl
def Mu.le (μ ν : Mu) : Prop := ∀ b p, μ b = some p → ν b = some p
theorem Mu.le_refl (μ : Mu) : μ.le μ := fun _ _ h => h
theorem Mu.le_trans {μ ν ξ : Mu} (h : μ.le ν) (h' : ν.le ξ) : μ.le ξ := fun b p e => h' b p (h b p e)
def Mu.add (μ : Mu) (b : Nat) (p : Pl) : Mu := fun x => if x = b then some p else μ x
theorem Mu.le_add {μ : Mu} {b : Nat} {p : Pl} (h : μ b = none) : μ.le (μ.add b p) := by
  intro x q e
  unfold Mu.add
  split
  · rename_i hx; subst hx; rw [h] at e; cases e
  · exact e
theorem Mu.add_self {μ : Mu} {b : Nat} {p : Pl} : μ.add b p b = some p := by simp [Mu.add]

mutual
inductive VR (μ : Mu) : AV → Value → Prop
  | bool (b : Bool) : VR μ (.bool b) (.bool b)
  | int (k : IntKind) (n : Int) : VR μ (.int k n) (.int k n)
  | str (s : ByteArray) : VR μ (.str (bytesL s)) (.string s)
  | ptr {b off : Nat} {p : Pl} : μ b = some p → VR μ (.ptr b off) (.pointer (some ⟨p.blk, p.sh + off, none⟩))
  | nilPtr : VR μ .nilPtr (.pointer none)
  | slice {b off n c op : Nat} {p : Pl} : μ b = some p → (op ≠ 0 → p.op = true ∧ op = p.esz + 1 ∧ off + c * p.esz ≤ p.tot) →
      VR μ (.slice b off n c op) (.slice (some ⟨p.blk, p.sh + off, none⟩) n (if op = 0 then c else c + p.ext))
  | nilSlice : VR μ .nilSlice (.slice none 0 0)
  | map {r : Nat} {p : Pl} : μ r = some p → VR μ (.map r) (.map (some p.blk))
  | nilMap : VR μ .nilMap (.map none)
  | func {f : FuncId} {a b : List AV} {a' b' : Array Value} : VRL μ a a'.toList → VRL μ b b'.toList → VR μ (.func f a b) (.func (.func f) a' b')
  | yld {l : Nat} {p : Pl} : μ l = some p → VR μ (.yld l) (.func (.yield p.blk) #[] #[])
  | nilFunc : VR μ .nilFunc .nilFunc
  | iface {t : TypeId} {v : AV} {v' : Value} : VR μ v v' → VR μ (.iface t v) (.iface t v')
  | nilIface : VR μ .nilIface .nilIface
  | agg {c : List AV} {c' : Array Value} : VRL μ c c'.toList → VR μ (.agg c) (.agg c')
  | tup {c : List AV} {c' : Array Value} : VRL μ c c'.toList → VR μ (.tup c) (.tuple c')
  | empty {a : Addr} {c : Nat} : VR μ .empty (.slice (some a) 0 c)
  | junk (v : Value) : VR μ .junk v
inductive VRL (μ : Mu) : List AV → List Value → Prop
  | nil : VRL μ [] []
  | cons {a : AV} {v : Value} {l : List AV} {l' : List Value} : VR μ a v → VRL μ l l' → VRL μ (a :: l) (v :: l')
end

mutual
theorem VR.mono {μ ν : Mu} (h : μ.le ν) : ∀ {a : AV} {v : Value}, VR μ a v → VR ν a v
  | _, _, .bool b => .bool b
  | _, _, .int k n => .int k n
  | _, _, .str s => .str s
  | _, _, .ptr e => .ptr (h _ _ e)
  | _, _, .nilPtr => .nilPtr
  | _, _, .slice e c => .slice (h _ _ e) c
  | _, _, .nilSlice => .nilSlice
  | _, _, .map e => .map (h _ _ e)
  | _, _, .nilMap => .nilMap
  | _, _, .func a b => .func (VRL.mono h a) (VRL.mono h b)
  | _, _, .yld e => .yld (h _ _ e)
  | _, _, .nilFunc => .nilFunc
  | _, _, .iface v => .iface (VR.mono h v)
  | _, _, .nilIface => .nilIface
  | _, _, .agg c => .agg (VRL.mono h c)
  | _, _, .tup c => .tup (VRL.mono h c)
  | _, _, .empty => .empty
  | _, _, .junk v => .junk v
theorem VRL.mono {μ ν : Mu} (h : μ.le ν) : ∀ {a : List AV} {v : List Value}, VRL μ a v → VRL ν a v
  | _, _, .nil => .nil
  | _, _, .cons a l => .cons (VR.mono h a) (VRL.mono h l)
end

theorem VRL.length {μ : Mu} : ∀ {a : List AV} {v : List Value}, VRL μ a v → a.length = v.length
  | _, _, .nil => rfl
  | _, _, .cons _ l => by simp [VRL.length l]

theorem VRL.append {μ : Mu} : ∀ {a b : List AV} {v u : List Value}, VRL μ a v → VRL μ b u → VRL μ (a ++ b) (v ++ u)
  | _, _, _, _, .nil, h => h
  | _, _, _, _, .cons a l, h => .cons a (VRL.append l h)

theorem VRL.split {μ : Mu} : ∀ {a b : List AV} {v : List Value}, VRL μ (a ++ b) v → ∃ x y, v = x ++ y ∧ VRL μ a x ∧ VRL μ b y
  | [], _, v, h => ⟨[], v, rfl, .nil, h⟩
  | _ :: _, _, _, .cons h l => by
    obtain ⟨x, y, rfl, hx, hy⟩ := VRL.split l
    exact ⟨_ :: x, y, rfl, .cons h hx, hy⟩

theorem VRL.get {μ : Mu} : ∀ {a : List AV} {v : List Value}, VRL μ a v → ∀ (i : Nat) {x : AV}, a[i]? = some x → ∃ y, v[i]? = some y ∧ VR μ x y
  | _, _, .nil, i, _, e => by simp at e
  | _, _, .cons h l, 0, _, e => by simp at e; subst e; exact ⟨_, rfl, h⟩
  | _, _, .cons h l, i + 1, _, e => by simp at e; simpa using VRL.get l i e

/-! the list words -/
theorem len_eq {α : Type} (l : List α) : len l = l.length := by
  induction l with
  | nil => rfl
  | cons x l ih => simp only [List.length_cons]; rw [← ih]; rfl

theorem nth_eq {α : Type} (l : List α) : ∀ n, nth l n = l[n]? := by
  induction l with
  | nil => intro n; simp [nth]
  | cons x l ih =>
    intro n
    cases n with
    | zero => rfl
    | succ n => have h := ih n; show nth l n = _; simpa using h

theorem takeE_eq {α : Type} (l : List α) : ∀ n r, takeE l n = some r → n ≤ l.length ∧ r = l.take n := by
  induction l with
  | nil =>
    intro n r h
    cases n with
    | zero => have h' : some [] = some r := h; cases h'; simp
    | succ n => have h' : none = some r := h; cases h'
  | cons x l ih =>
    intro n r h
    cases n with
    | zero => have h' : some [] = some r := h; cases h'; simp
    | succ n =>
      have h' : (takeE l n).map (x :: ·) = some r := h
      cases e : takeE l n with
      | none => simp [e] at h'
      | some q => simp [e] at h'; obtain ⟨h1, h2⟩ := ih n q e; subst h'; exact ⟨by simp; omega, by simp [h2]⟩

theorem cut_eq {α : Type} : ∀ (off : Nat) (l : List α) n r, cut l off n = some r → off + n ≤ l.length ∧ r = (l.drop off).take n
  | 0, l, n, r, h => by
    have h' : takeE l n = some r := h
    obtain ⟨a, b⟩ := takeE_eq l n r h'
    exact ⟨by omega, by simpa using b⟩
  | off + 1, [], n, r, h => by have h' : none = some r := h; cases h'
  | off + 1, x :: l, n, r, h => by
    have h' : cut l off n = some r := h
    obtain ⟨a, b⟩ := cut_eq off l n r h'
    exact ⟨by simp; omega, by simpa using b⟩

/-- what 'cut' says, as three pieces -/
theorem cut_parts {α : Type} {off : Nat} {l : List α} {n : Nat} {r : List α} (h : cut l off n = some r) :
    ∃ a b, l = a ++ r ++ b ∧ a.length = off ∧ r.length = n := by
  obtain ⟨h1, h2⟩ := cut_eq off l n r h
  refine ⟨l.take off, (l.drop off).drop n, ?_, by simp; omega, by subst h2; simp; omega⟩
  subst h2
  rw [List.append_assoc, List.take_append_drop, List.take_append_drop]

theorem over_eq {α : Type} : ∀ (vs cs r : List α), over vs cs = some r → vs.length ≤ cs.length ∧ r = vs ++ cs.drop vs.length
  | [], cs, r, h => by have h' : some cs = some r := h; cases h'; simp
  | v :: vs, [], r, h => by simp [over] at h
  | v :: vs, c :: cs, r, h => by
    have h' : (over vs cs).map (v :: ·) = some r := h
    cases e : over vs cs with
    | none => simp [e] at h'
    | some q => simp [e] at h'; obtain ⟨h1, h2⟩ := over_eq vs cs q e; subst h'; exact ⟨by simp; omega, by simp [h2]⟩

theorem splice_parts {α : Type} {vs : List AV} : ∀ {n : Nat} {cs r : List AV}, splice vs n cs = some r → ∃ a m b, cs = a ++ m ++ b ∧ r = a ++ vs ++ b ∧ a.length = n ∧ m.length = vs.length
  | 0, cs, r, h => by
    obtain ⟨h1, h2⟩ := over_eq vs cs r h
    exact ⟨[], cs.take vs.length, cs.drop vs.length, by simp, by simpa using h2, rfl, by simp; omega⟩
  | n + 1, [], r, h => by simp [splice] at h
  | n + 1, c :: cs, r, h => by
    have h' : (splice vs n cs).map (c :: ·) = some r := h
    cases e : splice vs n cs with
    | none => simp [e] at h'
    | some q =>
      simp [e] at h'
      obtain ⟨a, m, b, rfl, rfl, h3, h4⟩ := splice_parts (α := α) e
      subst h'
      exact ⟨c :: a, m, b, by simp, by simp, by simp [h3], h4⟩

/-! trees -/
namespace T
variable {α : Type}
theorem get_leaf_zero (d v : α) : (T.leaf v).get d 0 = v := rfl
theorem get_leaf_succ (d v : α) (k : Nat) : (T.leaf v).get d (k + 1) = d := rfl
theorem get_node (d : α) (l r : T α) (k : Nat) : (T.node l r).get d k = if k % 2 = 1 then r.get d (k / 2) else l.get d (k / 2) := by
  show (Bool.rec (motive := fun _ => α) (l.get d (Nat.div k 2)) (r.get d (Nat.div k 2)) (Nat.beq (Nat.mod k 2) 1)) = _
  cases hb : Nat.beq (Nat.mod k 2) 1 with
  | true => have h : k % 2 = 1 := Nat.eq_of_beq_eq_true hb; simp only [h, if_true]; rfl
  | false =>
    have h : k % 2 ≠ 1 := fun e => by
      have : Nat.beq (k % 2) 1 = true := by rw [e]; rfl
      have hb' : Nat.beq (k % 2) 1 = false := hb
      rw [hb'] at this; cases this
    simp only [if_neg h]; rfl
theorem set_leaf_zero (v x : α) : (T.leaf v).set 0 x = .leaf x := rfl
theorem set_leaf_succ (v x : α) (k : Nat) : (T.leaf v).set (k + 1) x = .leaf v := rfl
theorem set_node (l r : T α) (k : Nat) (x : α) : (T.node l r).set k x = if k % 2 = 1 then .node l (r.set (k / 2) x) else .node (l.set (k / 2) x) r := by
  show (Bool.rec (motive := fun _ => T α) (T.node (l.set (Nat.div k 2) x) r) (T.node l (r.set (Nat.div k 2) x)) (Nat.beq (Nat.mod k 2) 1)) = _
  cases hb : Nat.beq (Nat.mod k 2) 1 with
  | true => have h : k % 2 = 1 := Nat.eq_of_beq_eq_true hb; simp only [h, if_true]; rfl
  | false =>
    have h : k % 2 ≠ 1 := fun e => by
      have : Nat.beq (k % 2) 1 = true := by rw [e]; rfl
      have hb' : Nat.beq (k % 2) 1 = false := hb
      rw [hb'] at this; cases this
    simp only [if_neg h]; rfl

/-- does the tree reach a number? -/
def has : T α → Nat → Bool
  | .leaf _, k => k == 0
  | .node l r, k => if k % 2 = 1 then r.has (k / 2) else l.has (k / 2)

theorem get_set_ne (d : α) : ∀ (t : T α) (k j : Nat) (x : α), j ≠ k → (t.set k x).get d j = t.get d j
  | .leaf v, 0, 0, _, h => absurd rfl h
  | .leaf v, 0, j + 1, _, _ => rfl
  | .leaf v, k + 1, j, _, _ => rfl
  | .node l r, k, j, x, h => by
    rw [set_node]
    by_cases hk : k % 2 = 1
    · rw [if_pos hk, get_node, get_node]
      by_cases hj : j % 2 = 1
      · rw [if_pos hj, if_pos hj]; exact get_set_ne d r _ _ x (by omega)
      · rw [if_neg hj, if_neg hj]
    · rw [if_neg hk, get_node, get_node]
      by_cases hj : j % 2 = 1
      · rw [if_pos hj, if_pos hj]
      · rw [if_neg hj, if_neg hj]; exact get_set_ne d l _ _ x (by omega)

theorem get_set_eq (d : α) : ∀ (t : T α) (k : Nat) (x : α), (t.set k x).get d k = if t.has k then x else d
  | .leaf v, 0, x => rfl
  | .leaf v, k + 1, x => by simp [set_leaf_succ, get_leaf_succ, has]
  | .node l r, k, x => by
    rw [set_node]
    by_cases hk : k % 2 = 1
    · rw [if_pos hk, get_node, if_pos hk, get_set_eq d r]; simp [has, hk]
    · rw [if_neg hk, get_node, if_neg hk, get_set_eq d l]; simp [has, hk]

theorem get_of_has (d : α) : ∀ (t : T α) (k : Nat), t.has k = false → t.get d k = d
  | .leaf v, 0, h => by simp [has] at h
  | .leaf v, k + 1, _ => rfl
  | .node l r, k, h => by
    rw [get_node]
    by_cases hk : k % 2 = 1
    · simp only [has, if_pos hk] at h; rw [if_pos hk]; exact get_of_has d r _ h
    · simp only [has, if_neg hk] at h; rw [if_neg hk]; exact get_of_has d l _ h

theorem get_full (d : α) : ∀ (n k : Nat), (T.full d n).get d k = d
  | 0, 0 => rfl
  | 0, k + 1 => rfl
  | n + 1, k => by
    show (T.node (T.full d n) (T.full d n)).get d k = d
    rw [get_node]; split <;> exact get_full d n _

theorem has_set : ∀ (t : T α) (k j : Nat) (x : α), (t.set k x).has j = t.has j
  | .leaf v, 0, j, _ => rfl
  | .leaf v, k + 1, j, _ => rfl
  | .node l r, k, j, x => by
    rw [set_node]
    split <;> simp only [has] <;> split <;> first | rfl | exact has_set _ _ _ _
end T

/-! the heap -/
theorem Heap.get_mk (t : T (Option AObj)) (n : Nat) (l : List Nat) (b : Nat) : Heap.get ⟨t, n, l⟩ b = t.get none b := rfl
theorem Heap.put_mk (t : T (Option AObj)) (n : Nat) (l : List Nat) (b : Nat) (o : AObj) : Heap.put ⟨t, n, l⟩ b o = ⟨t.set b (some o), n, b :: l⟩ := rfl
theorem Heap.get_put_ne (h : Heap) (b c : Nat) (o : AObj) (hne : c ≠ b) : (h.put b o).get c = h.get c := T.get_set_ne none h.t b c (some o) hne
theorem Heap.get_put (h : Heap) (b : Nat) (o : AObj) : (h.put b o).get b = some o ∨ (h.put b o).get b = none := by
  have := T.get_set_eq none h.t b (some o)
  change (h.put b o).get b = _ at this
  rw [this]; split
  · exact .inl rfl
  · exact .inr rfl
theorem Heap.get_put_some (h : Heap) (b : Nat) (o : AObj) {q : AObj} (e : (h.put b o).get b = some q) : q = o := by
  rcases h.get_put b o with h' | h' <;> rw [h'] at e <;> simp at e
  exact e.symm
theorem Heap.get_drop_ne (h : Heap) (b c : Nat) (hne : c ≠ b) : (h.drop b).get c = h.get c := T.get_set_ne none h.t b c none hne
theorem Heap.get_drop (h : Heap) (b : Nat) : (h.drop b).get b = none := by
  have := T.get_set_eq none h.t b (none : Option AObj)
  change (h.drop b).get b = _ at this
  rw [this]; split <;> rfl
theorem Heap.next_put (h : Heap) (b : Nat) (o : AObj) : (h.put b o).next = h.next := rfl
theorem Heap.next_drop (h : Heap) (b : Nat) : (h.drop b).next = h.next := rfl

theorem guard_some {α : Type} {b : Bool} {y : Option α} {v : α} (h : (Bool.rec none y b : Option α) = some v) : b = true ∧ y = some v := by
  cases b with
  | false => cases h
  | true => exact ⟨rfl, h⟩

/-! choices -/
inductive Leads {β : Type} : CT β → (β → Prop) → Prop where
  | ret {b : β} {Φ : β → Prop} : Φ b → Leads (.ret b) Φ
  | bad {Φ : β → Prop} : Leads .bad Φ
  | pick {n : Nat} {k : Nat → CT β} {Φ : β → Prop} (i : Nat) : i < n → Leads (k i) Φ → Leads (.pick n k) Φ

theorem Leads.mono {β : Type} {m : CT β} {Φ Ψ : β → Prop} (h : Leads m Φ) (hp : ∀ b, Φ b → Ψ b) : Leads m Ψ := by
  induction h with
  | ret h => exact .ret (hp _ h)
  | bad => exact .bad
  | pick i hi _ ih => exact .pick i hi (ih hp)
theorem bind_ret {α β : Type} (a : α) (f : α → CT β) : (CT.ret a).bind f = f a := rfl
theorem bind_bad {α β : Type} (f : α → CT β) : (CT.bad : CT α).bind f = .bad := rfl
theorem bind_pick {α β : Type} (n : Nat) (k : Nat → CT α) (f : α → CT β) : (CT.pick n k).bind f = .pick n fun i => (k i).bind f := rfl
theorem Leads.bind {α β : Type} {m : CT α} {Φ : α → Prop} {f : α → CT β} {Ψ : β → Prop} (h : Leads m Φ) (hf : ∀ a, Φ a → Leads (f a) Ψ) : Leads (m.bind f) Ψ := by
  induction h with
  | ret h => exact hf _ h
  | bad => exact .bad
  | pick i hi _ ih => exact .pick i hi (ih hf)
theorem guard_leads {β : Type} {b : Bool} {m : CT β} {Φ : β → Prop} (h : b = true → Leads m Φ) : Leads (Bool.rec .bad m b : CT β) Φ := by
  cases b with
  | false => exact .bad
  | true => exact h rfl
theorem Leads.of_ret {β : Type} {b : β} {Φ : β → Prop} (h : Leads (.ret b) Φ) : Φ b := by cases h; assumption
theorem Leads.andThen {m : Out} {Φ : AV × Heap → Prop} {k : KV} {Ψ : AV × Heap → Prop} (h : Leads m Φ) (hk : ∀ v h, Φ (v, h) → Leads (k v h) Ψ) : Leads (m.andThen k) Ψ :=
  h.bind fun a ha => hk a.1 a.2 ha

end Go.Ab
end
