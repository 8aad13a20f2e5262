/- A small machine over an abstract heap: what a call of a Go function comes to, whatever capacities the appends draw, whatever order the regions draw, wherever the blocks lie. Definitions alone; Am2 and what follows show that the model's call comes to the same. -/
import Derived.Calls
import Derived.Laws.Sem
namespace Go.Am

/-- What a run comes to: an answer, nothing, or one way for each choice (a range over a map). -/
inductive T (α : Type) : Type where
  | ret (a : α)
  | fail
  | pick (n : Nat) (k : Nat → T α)

def T.bind {α β : Type} : T α → (α → T β) → T β
  | .ret a, f => f a
  | .fail, _ => .fail
  | .pick n k, f => .pick n fun i => (k i).bind f
def T.of {α : Type} : Option α → T α
  | some a => .ret a
  | none => .fail
/-- On every way there is an answer, and it satisfies K. -/
def T.All {α : Type} (K : α → Prop) : T α → Prop
  | .ret a => K a
  | .fail => False
  | .pick n f => ∀ i, i < n → (f i).All K
def allBelow (p : Nat → Bool) : Nat → Bool
  | 0 => true
  | n + 1 => p n && allBelow p n
def T.all {α : Type} (K : α → Bool) : T α → Bool
  | .ret a => K a
  | .fail => false
  | .pick n f => allBelow (fun i => (f i).all K) n

/-! ### Tables -/
def get {α : Type} : List α → Nat → Option α
  | [], _ => none
  | a :: _, 0 => some a
  | _ :: r, n + 1 => get r n

inductive Kd where
  | int (k : IntKind) | bool | string
  | slice (e : TypeId) | struct (fs : List (Nat × TypeId)) | array (n : Nat) (e : TypeId)
  | map (k e : TypeId) | ptr (e : TypeId) | fn | other
structure TI where
  kd : Kd
  size : Nat
  bytes : Nat
  zero : Option Value
def kdOf : TypeDesc → Kd
  | .int k => .int k
  | .bool => .bool
  | .string => .string
  | .slice e => .slice e
  | .struct fs => .struct (fs.toList.map fun f => (f.offset, f.type))
  | .array n e => .array n e
  | .map k e => .map k e
  | .pointer e => .ptr e
  | .func .. => .fn
  | _ => .other
def tiOf (P : Program) (t : TypeId) : Option TI :=
  match P.info? t, P.underlying t with
  | some i, some d => some ⟨kdOf d, i.size, i.bytes, i.zero⟩
  | _, _ => none

def Kd.agg : Kd → Bool
  | .struct _ | .array _ _ => true
  | _ => false

/-! ### The heap -/
inductive Blk where
  | cells (cs : List Value) (t : TypeId)
  | map (es : List MapEntry) (clock : Nat)
  | strIter (s : ByteArray) (pos : Nat)
  | mapIter (m : Option Nat) (since : Nat) (seen : List Nat) (stepped : Nat)

/-- An entry: its number, whether it is the run's own (it may be written), what it holds. -/
abbrev Heap := List (Nat × Bool × Blk)
/-- The heap, the next block's number, and the numbers of the blocks that were written or given up. -/
structure St where
  heap : Heap
  next : Nat
  log : List Nat

/-- The program, its tables, how many blocks at the begin are its variables', calls that are answered without a look into the code, and what is known of operations without memory at values that stand for unknown ones. -/
structure Env where
  P : Program
  types : List TI
  funcs : List Func
  ng : Nat
  prim : FuncId → List Value → St → Option (Value × St)
  orc : Op → Option (List Value → Option Value) := fun _ => none
def Env.kd (E : Env) (t : TypeId) : Option Kd := (get E.types t).map (·.kd)
def Env.size (E : Env) (t : TypeId) : Option Nat := (get E.types t).map (·.size)
def Env.bytes (E : Env) (t : TypeId) : Option Nat := (get E.types t).map (·.bytes)
def Env.zero (E : Env) (t : TypeId) : Option Value := (get E.types t).bind (·.zero)

def find : Heap → Nat → Option (Bool × Blk)
  | [], _ => none
  | (j, e) :: r, i => if Nat.beq j i then some e else find r i
def repl : Heap → Nat → Blk → Heap
  | [], _, _ => []
  | (j, o, b) :: r, i, x => if Nat.beq j i then (j, o, x) :: r else (j, o, b) :: repl r i x
/-- The entries whose numbers satisfy p. -/
def filt (p : Nat → Bool) : Heap → Heap
  | [] => []
  | (i, e) :: r => if p i then (i, e) :: filt p r else filt p r
def kill (h : Heap) (i : Nat) : Heap := filt (fun j => !Nat.beq j i) h
def St.new (st : St) (b : Blk) : St := ⟨(st.next, true, b) :: st.heap, st.next + 1, st.log⟩
def mem (i : Nat) : List Nat → Bool
  | [] => false
  | j :: r => Nat.beq i j || mem i r
def addTo (i : Nat) (l : List Nat) : List Nat := if mem i l then l else i :: l
def St.set (st : St) (i : Nat) (b : Blk) : St := ⟨repl st.heap i b, st.next, addTo i st.log⟩
def St.kill (st : St) (i : Nat) : St := ⟨Am.kill st.heap i, st.next, addTo i st.log⟩
def ptr (i off : Nat) : Value := .pointer (some ⟨i, off, none⟩)

def cellsAt (h : Heap) (i : Nat) : Option (Bool × List Value × TypeId) :=
  match find h i with
  | some (o, .cells cs t) => some (o, cs, t)
  | _ => none
def mapAt (h : Heap) (i : Nat) : Option (Bool × List MapEntry × Nat) :=
  match find h i with
  | some (o, .map es c) => some (o, es, c)
  | _ => none

/-! ### Values -/
mutual
/-- A value that leads nowhere: it is the same wherever blocks lie. -/
def flat : Value → Bool
  | .bool _ | .int _ _ | .float _ _ | .complex _ _ _ | .string _ | .pointer none | .slice none 0 0 | .map none | .chan none | .nilFunc | .nilIface => true
  | .agg ⟨cs⟩ => flatL cs
  | .tuple ⟨vs⟩ => flatL vs
  | _ => false
def flatL : List Value → Bool
  | [] => true
  | v :: r => flat v && flatL r
end
def oneCells : List Value → Bool
  | [] => true
  | v :: r => v.oneCell' && oneCells r

/-- What a computation without memory comes to. -/
def pureRun (P : Program) {α : Type} : Sem α → Option α
  | .pure a => some a
  | .program k => pureRun P (k P)
  | _ => none

/-- The same, where it leads nowhere. -/
def pureV (P : Program) (s : Sem Value) : Option Value :=
  match pureRun P s with
  | some v => if flat v then some v else none
  | none => none

def slc (cs : List Value) (off n : Nat) : Option (List Value) := if Nat.ble (off + n) cs.length then some ((cs.drop off).take n) else none
def splice : List Value → Nat → List Value → List Value
  | cs, 0, [] => cs
  | _ :: cs, 0, v :: vs => v :: splice cs 0 vs
  | c :: cs, n + 1, vs => c :: splice cs n vs
  | [], _, _ => []

def loadCells (h : Heap) (a : Addr) (n : Nat) : Option (List Value) :=
  match a.spot with
  | some _ => none
  | none =>
    match cellsAt h a.block with
    | some (_, cs, _) => slc cs a.off n
    | none => none
def storeCells (st : St) (a : Addr) (vs : List Value) : Option St :=
  match a.spot with
  | some _ => none
  | none =>
    match cellsAt st.heap a.block with
    | some (true, cs, t) =>
      if Nat.ble (a.off + vs.length) cs.length && oneCells vs then some (st.set a.block (.cells (splice cs a.off vs) t)) else none
    | _ => none
/-- The cells of a variable, as a value. -/
def loadVar (E : Env) (h : Heap) (t : TypeId) (a : Addr) : Option Value :=
  match get E.types t with
  | some i =>
    if i.kd.agg then
      match loadCells h a i.size with
      | some cs => some (.agg ⟨cs⟩)
      | none => none
    else
      match loadCells h a 1 with
      | some [v] => some v
      | _ => none
  | none => none

def asInt : Value → Option Int
  | .int _ n => some n
  | _ => none
def bound (v : Value) (y : Nat) : Option Nat :=
  match v with
  | .int _ n => match n with
    | .ofNat m => if Nat.ble m y then some m else none
    | .negSucc _ => none
  | _ => none
def zeros (z : List Value) : Nat → List Value
  | 0 => []
  | n + 1 => z ++ zeros z n

def lenOf : Value → Option Nat
  | .slice _ n _ => some n
  | .string s => some s.size
  | _ => none
/-- The first n elements' cells of a slice or a string. -/
def firstCells (h : Heap) (size n : Nat) : Value → Option (List Value)
  | .slice (some a) _ _ => if Nat.beq (n * size) 0 then some [] else loadCells h { a with spot := none } (n * size)
  | .slice none _ _ => if Nat.beq n 0 then some [] else none
  | .string s => some ((s.extract 0 n).data.toList.map fun b => .int .u8 b.toNat)
  | _ => none

def most : Nat := 140737488355328

def srcKd : Kd → Bool
  | .slice _ | .string => true
  | _ => false
/-- append(s, x): in place where the room is known to be there, else a new block; the old one, where there might have been room, is given up. -/
def append (E : Env) (argTypes : Array TypeId) (s x : Value) (st : St) : Option (Value × St) :=
  match argTypes.toList, s with
  | [sT, xT], .slice base sLen sCap =>
    match E.kd sT, E.kd xT with
    | some (.slice elem), some xK =>
      match get E.types elem, lenOf x with
      | some ei, some n =>
        match firstCells st.heap ei.size n x with
        | none => none
        | some new =>
          if Nat.ble ((sLen + n) * ei.bytes) most && Nat.ble (sLen + n) most && oneCells new && Nat.beq new.length (n * ei.size) && srcKd xK && ei.zero.isSome then
            if Nat.ble (sLen + n) sCap then
              match base with
              | none => some (s, st)
              | some a =>
                if Nat.beq (n * ei.size) 0 then some (.slice (some a) (sLen + n) sCap, st) else
                match storeCells st { block := a.block, off := a.off + sLen * ei.size } new with
                | some st => some (.slice (some a) (sLen + n) sCap, st)
                | none => none
            else
              match firstCells st.heap ei.size sLen s with
              | none => none
              | some old =>
                match base with
                | some ⟨b, _, none⟩ =>
                  match cellsAt st.heap b with
                  | some (true, _, t) =>
                    if Nat.beq t elem then some (.slice (some ⟨st.next, 0, none⟩) (sLen + n) (sLen + n), (st.kill b).new (.cells (old ++ new) elem))
                    else none
                  | _ => none
                | _ => some (.slice (some ⟨st.next, 0, none⟩) (sLen + n) (sLen + n), st.new (.cells (old ++ new) elem))
          else none
      | _, _ => none
    | _, _ => none
  | _, _ => none

def copy (E : Env) (argTypes : Array TypeId) (dst src : Value) (st : St) : Option (Value × St) :=
  match argTypes.toList, dst with
  | dT :: _, .slice base dLen _ =>
    match E.kd dT with
    | some (.slice elem) =>
      match E.size elem, lenOf src with
      | some size, some sl =>
        match firstCells st.heap size (Nat.min sl dLen) src with
        | none => none
        | some cs =>
          match base with
          | none => some (.int .i64 (.ofNat (Nat.min sl dLen)), st)
          | some a =>
            if cs.isEmpty then some (.int .i64 (.ofNat (Nat.min sl dLen)), st) else
            match storeCells st { a with spot := none } cs with
            | some st => some (.int .i64 (.ofNat (Nat.min sl dLen)), st)
            | none => none
      | _, _ => none
    | _ => none
  | _, _ => none

/-! ### Maps: keys that lead nowhere -/
def flatKeys : List MapEntry → Bool
  | [] => true
  | e :: r => flat e.key && flatKeys r
def bare (e : MapEntry) : MapEntry := { e with val := .nilFunc }
/-- The place of a key among entries. -/
def findKey (P : Program) (empty : Bool) (kt : TypeId) (k : Value) (es : List MapEntry) : Option (Option Nat) :=
  if flat k && flatKeys es then
    match pureRun P (do Instr.checkKey empty 10000 kt k; Instr.findKey kt k (es.map bare)) with
    | some (some (i, _)) => some (some i)
    | some none => some none
    | none => none
  else none
def getEntry : List MapEntry → Nat → Option MapEntry := get
def setEntry : List MapEntry → Nat → Value → Value → List MapEntry
  | [], _, _, _ => []
  | e :: r, 0, k, v => { e with key := k, val := v } :: r
  | e :: r, n + 1, k, v => e :: setEntry r n k v
def dropEntry : List MapEntry → Nat → List MapEntry
  | [], _ => []
  | _ :: r, 0 => r
  | e :: r, n + 1 => e :: dropEntry r n

/-! ### Operations -/
def put (tmps : List Value) (d : Option Tmp) (v : Value) : List Value :=
  match d with
  | some d => tmps.set d v
  | none => tmps
def tmpAt (tmps : List Value) (t : Tmp) : Value := (get tmps t).getD (.tuple #[])
def eval (E : Env) (tmps : List Value) : Operand → Option Value
  | .tmp t => get tmps t
  | .const v => if flat v then some v else none
  | .global g => if Nat.blt g E.ng then some (ptr g 0) else none
  | .func f => some (.func (.func f) #[] #[])
def evalL (E : Env) (tmps : List Value) : List Operand → Option (List Value)
  | [] => some []
  | x :: r => match eval E tmps x, evalL E tmps r with
    | some v, some vs => some (v :: vs)
    | _, _ => none
def evalP (E : Env) (tmps : List Value) : List (Nat × Operand) → Option (List (Nat × Value))
  | [] => some []
  | (i, x) :: r => match eval E tmps x, evalP E tmps r with
    | some v, some vs => some ((i, v) :: vs)
    | _, _ => none
def evalO (E : Env) (tmps : List Value) : Option Operand → Option (Option Value)
  | none => some none
  | some x => (eval E tmps x).map some

inductive R where
  | val (v : Value) (st : St)
  | call (f : FuncId) (args : List Value)

def ret (st : St) (v : Option Value) : Option R := match v with | some v => some (.val v st) | none => none

def intOp (op : BinOp) (k : IntKind) (a b : Int) : Option Value :=
  match op with
  | .add => some (.int k (k.wrap (a + b)))
  | .sub => some (.int k (k.wrap (a - b)))
  | .mul => some (.int k (k.wrap (a * b)))
  | .quo => if b = 0 then none else some (.int k (k.wrap (a.tdiv b)))
  | .rem => if b = 0 then none else some (.int k (a.tmod b))
  | .and => some (.int k (k.wrap (BitVec.ofInt k.bits a &&& BitVec.ofInt k.bits b).toNat))
  | .or => some (.int k (k.wrap (BitVec.ofInt k.bits a ||| BitVec.ofInt k.bits b).toNat))
  | .xor => some (.int k (k.wrap (BitVec.ofInt k.bits a ^^^ BitVec.ofInt k.bits b).toNat))
  | .andNot => some (.int k (k.wrap (BitVec.ofInt k.bits a &&& ~~~ BitVec.ofInt k.bits b).toNat))
  | .eql => some (.bool (a == b))
  | .neq => some (.bool (a != b))
  | .lss => some (.bool (decide (a < b)))
  | .leq => some (.bool (decide (a ≤ b)))
  | .gtr => some (.bool (decide (a > b)))
  | .geq => some (.bool (decide (a ≥ b)))
  | _ => none
def shiftOp (op : BinOp) (k : IntKind) (a b : Int) : Option Value :=
  match b with
  | .negSucc _ => none
  | .ofNat n =>
    match op with
    | .shl => some (.int k (k.wrap (a * 2 ^ (min n k.bits))))
    | .shr => some (.int k (a.fdiv (2 ^ (min n k.bits))))
    | _ => none
def sameKind : IntKind → IntKind → Bool
  | .i8, .i8 | .i16, .i16 | .i32, .i32 | .i64, .i64 | .u8, .u8 | .u16, .u16 | .u32, .u32 | .u64, .u64 => true
  | _, _ => false
def isShift : BinOp → Bool
  | .shl | .shr => true
  | _ => false
/-- Is one of two the nil of its kind, and the other not? -/
def oneNil : Option Kd → Value → Value → Bool
  | some (.ptr _), .pointer (some _), .pointer none => true
  | some (.ptr _), .pointer none, .pointer (some _) => true
  | some (.slice _), .slice (some _) _ _, .slice none 0 0 => true
  | some (.slice _), .slice none 0 0, .slice (some _) _ _ => true
  | some (.map _ _), .map (some _), .map none => true
  | some (.map _ _), .map none, .map (some _) => true
  | some .fn, .func _ _ _, .nilFunc => true
  | some .fn, .nilFunc, .func _ _ _ => true
  | _, _, _ => false
def unlike : BinOp → Option Value
  | .eql => some (.bool false)
  | .neq => some (.bool true)
  | _ => none
def binOp (E : Env) (op : BinOp) (t : TypeId) (x y : Operand) (a b : Value) : Option Value :=
  match a, b with
  | .int k m, .int k' n => if isShift op then shiftOp op k m n else if sameKind k k' then intOp op k m n else none
  | a, b =>
    if flat a && flat b then pureV E.P (do eqGuard op t x y a b; Go.binOp op t a b) else
    if oneNil (E.kd t) a b then unlike op else none

/-- A part of a struct or an array that is a value. -/
def part (E : Env) (t : TypeId) (cs : List Value) (off : Nat) : Option Value :=
  match get E.types t with
  | some i => if i.kd.agg then some (.agg ⟨(cs.drop off).take i.size⟩) else get cs off
  | none => none

/-- Is a slice whose room isn't known one of a block of such elements? -/
def fits (h : Heap) (elem : TypeId) (a : Addr) : Bool :=
  match a.spot with
  | some _ => true
  | none => match cellsAt h a.block with
    | some (_, _, t) => Nat.beq t elem
    | none => false
def sliceOp (E : Env) (hp : Heap) (t : TypeId) (x : Value) (lo hi mx : Option Value) : Option Value :=
  match E.kd t, x with
  | some .string, .string s =>
    match mx with
    | some _ => none
    | none =>
      match (match hi with | some v => bound v s.size | none => some s.size) with
      | none => none
      | some h =>
        match (match lo with | some v => bound v h | none => some 0) with
        | none => none
        | some l => some (.string (s.extract l h))
  | some (.slice elem), .slice a len cap =>
    match (match mx with | some v => bound v cap | none => some cap) with
    | none => none
    | some m =>
      match (match hi, mx with | some v, _ => bound v m | none, none => some len | none, some _ => none) with
      | none => none
      | some h =>
        match (match lo with | some v => bound v h | none => some 0) with
        | none => none
        | some l =>
          match E.size elem, a with
          | some size, some a => if fits hp elem a then some (.slice (some ⟨a.block, a.off + l * size, if mx.isSome then some 0 else a.spot⟩) (h - l) (m - l)) else none
          | some _, none => some (.slice none (h - l) (m - l))
          | _, _ => none
  | some (.array n elem), .pointer (some ⟨b, off, none⟩) =>
    match (match mx with | some v => bound v n | none => some n) with
    | none => none
    | some m =>
      match (match hi, mx with | some v, _ => bound v m | none, none => some n | none, some _ => none) with
      | none => none
      | some h =>
        match (match lo with | some v => bound v h | none => some 0) with
        | none => none
        | some l =>
          match E.size elem with
          | some size => some (.slice (some ⟨b, off + l * size, some 0⟩) (h - l) (m - l))
          | none => none
  | _, _ => none

def bytesOf : List Value → Option (List UInt8)
  | [] => some []
  | .int .u8 n :: r => (bytesOf r).map (UInt8.ofNat n.toNat :: ·)
  | _ :: _ => none

def convertOp (E : Env) (src dst : TypeId) (x : Value) (st : St) : Option R :=
  match E.kd dst, x with
  | some (.int k), .int _ n => (match E.kd src with | some _ => some (.val (.int k (k.wrap n)) st) | none => none)
  | some (.slice elem), .string s =>
    match E.kd src, E.kd elem, E.size elem with
    | some .string, some (.int .u8), some 1 => some (.val (.slice (some ⟨st.next, 0, none⟩) s.size s.size) (st.new (.cells (s.data.toList.map fun b => .int .u8 b.toNat) elem)))
    | _, _, _ => none
  | some .string, .slice a n _ =>
    match E.kd src with
    | some (.slice elem) =>
      match E.kd elem with
      | some (.int .u8) =>
        match a with
        | none => some (.val (.string .empty) st)
        | some a =>
          if Nat.beq n 0 then some (.val (.string .empty) st) else
          match loadCells st.heap { a with spot := none } n with
          | none => none
          | some cs => (bytesOf cs).map fun bs => .val (.string ⟨⟨bs⟩⟩) st
      | _ => none
    | _ => none
  | _, x => if flat x then ret st (pureV E.P (convert src dst x)) else none

/-- What a step of a range over a map may come to. -/
def cands (es : List MapEntry) (since : Nat) (seen : List Nat) : List (Option MapEntry) :=
  let left := es.filter fun e => !seen.contains e.born
  let old := left.filter fun e => e.born < since
  let new := left.filter fun e => e.born ≥ since
  (if old.isEmpty then [none] else []) ++ (old ++ new).map some

def builtinOp (E : Env) (b : Builtin) (argTypes : Array TypeId) (ty : TypeId) (xs : List Value) (st : St) : Option R :=
  match b, xs with
  | .len, [.slice _ n _] => (match argTypes.toList with
    | t :: _ => (match E.kd t with | some (.slice _) => some (.val (.int .i64 (.ofNat n)) st) | _ => none)
    | [] => none)
  | .len, [.map (some i)] => (match argTypes.toList with
    | t :: _ => (match E.kd t, mapAt st.heap i with | some (.map _ _), some (_, es, _) => some (.val (.int .i64 (.ofNat es.length)) st) | _, _ => none)
    | [] => none)
  | .len, [x] => if flat x then ret st (pureV E.P (Builtin.len_ argTypes ty #[x])) else none
  | .append, [s, x] => (append E argTypes s x st).map fun r => .val r.1 r.2
  | .copy, [d, s] => (copy E argTypes d s st).map fun r => .val r.1 r.2
  | .min, xs => if flatL xs then ret st (pureV E.P (Builtin.min_ argTypes ty ⟨xs⟩)) else none
  | .max, xs => if flatL xs then ret st (pureV E.P (Builtin.max_ argTypes ty ⟨xs⟩)) else none
  | .delete, [.map (some i), k] => (match argTypes.toList with
    | t :: _ => (match E.kd t, mapAt st.heap i with
      | some (.map kt _), some (true, es, cl) => (match findKey E.P es.isEmpty kt k es with
        | some (some j) => some (.val (.tuple #[]) (st.set i (.map (dropEntry es j) cl)))
        | some none => some (.val (.tuple #[]) st)
        | none => none)
      | _, _ => none)
    | [] => none)
  | .clear, [.slice base n _] => (match argTypes.toList with
    | t :: _ => (match E.kd t with
      | some (.slice elem) =>
        if Nat.beq n 0 then some (.val (.tuple #[]) st) else
        match base, E.zero elem with
        | some a, some z => (storeCells st { a with spot := none } (zeros z.cells.toList n)).map (.val (.tuple #[]) ·)
        | _, _ => none
      | _ => none)
    | [] => none)
  | _, _ => none

/-! One operation each (a step of a range over a map aside). -/
abbrev Vs := List Value
def stepPick (E : Env) (tmps : Vs) (c a b : Operand) : Option Value :=
  match eval E tmps c, eval E tmps a, eval E tmps b with
  | some (.bool c), some a, some b => some (if c then a else b)
  | _, _, _ => none
def stepAlloc (E : Env) (t : TypeId) (st : St) : Option R :=
  match E.zero t with
  | some z => some (.val (ptr st.next 0) (st.new (.cells z.cells.toList t)))
  | none => none
def stepBox (E : Env) (tmps : Vs) (t : TypeId) (x : Operand) (st : St) : Option R :=
  match eval E tmps x with
  | some v => some (.val (ptr st.next 0) (st.new (.cells v.cells.toList t)))
  | none => none
/-- Parts laid into cells. -/
def fillL (place : Nat → Option (Nat × Nat)) : List Value → List (Nat × Value) → Option (List Value)
  | cells, [] => some cells
  | cells, (i, v) :: rest =>
    match place i with
    | none => none
    | some (off, size) =>
      if Nat.beq v.cells.toList.length size && Nat.ble (off + size) cells.length then fillL place (splice cells off v.cells.toList) rest else none
def placesOf (E : Env) : List (Nat × TypeId) → Option (List (Nat × Nat))
  | [] => some []
  | (o, t) :: r => match E.size t, placesOf E r with
    | some n, some l => some ((o, n) :: l)
    | _, _ => none
def aggOf (cs : Option (List Value)) : Option Value := match cs with | some cs => some (.agg ⟨cs⟩) | none => none
def stepBuild (E : Env) (tmps : Vs) (t : TypeId) (ps : Array (Nat × Operand)) : Option Value :=
  match evalP E tmps ps.toList, E.kd t, E.zero t with
  | some ps, some (.struct fs), some z => (match placesOf E fs with
    | some pl => aggOf (fillL (get pl) z.cells.toList ps)
    | none => none)
  | some ps, some (.array _ e), some z => (match E.size e with
    | some n => aggOf (fillL (fun i => some (i * n, n)) z.cells.toList ps)
    | none => none)
  | _, _, _ => none
def zerosOf (ei : TI) (n : Nat) : Option (List Value) :=
  if Nat.beq (n * ei.size) 0 then some [] else match ei.zero with | some z => some (zeros z.cells.toList n) | none => none
def stepBuildSlice (E : Env) (tmps : Vs) (t : TypeId) (n : Nat) (ps : Array (Nat × Operand)) (st : St) : Option R :=
  match evalP E tmps ps.toList, E.kd t with
  | some ps, some (.slice elem) => (match get E.types elem with
    | some ei =>
      if Nat.ble (n * ei.size) 16777216 then
        match zerosOf ei n with
        | none => none
        | some zs => (match fillL (fun i => some (i * ei.size, ei.size)) zs ps with
          | some cs => some (.val (.slice (some ⟨st.next, 0, some 0⟩) n n) (st.new (.cells cs elem)))
          | none => none)
      else none
    | none => none)
  | _, _ => none
def stepLoad (E : Env) (tmps : Vs) (t : TypeId) (a : Operand) (st : St) : Option Value :=
  match eval E tmps a with
  | some (.pointer (some a)) => loadVar E st.heap t a
  | _ => none
def stepStore (E : Env) (tmps : Vs) (t : TypeId) (a x : Operand) (st : St) : Option R :=
  match eval E tmps a, eval E tmps x with
  | some (.pointer (some a)), some v => (match E.size t with
    | some size =>
      if Nat.beq v.cells.toList.length size then
        match storeCells st a v.cells.toList with
        | some st => some (.val (.tuple #[]) st)
        | none => none
      else none
    | none => none)
  | _, _ => none
def stepNilCheck (E : Env) (tmps : Vs) (x : Operand) : Option Value :=
  match eval E tmps x with
  | some (.pointer (some a)) => some (.pointer (some a))
  | some (.func (.func f) fi ca) => some (.func (.func f) fi ca)
  | _ => none
def stepBin (E : Env) (tmps : Vs) (op : BinOp) (t : TypeId) (x y : Operand) : Option Value :=
  match eval E tmps x, eval E tmps y with
  | some a, some b => binOp E op t x y a b
  | _, _ => none
def stepUn (E : Env) (tmps : Vs) (op : UnOp) (x : Operand) : Option Value :=
  match eval E tmps x with
  | some x => if flat x then pureV E.P (Op.unary op x) else none
  | none => none
def stepConvert (E : Env) (tmps : Vs) (src dst : TypeId) (x : Operand) (st : St) : Option R :=
  match eval E tmps x with
  | some v => convertOp E src dst v st
  | none => none
def stepMakeFunc (E : Env) (tmps : Vs) (fn : Fn) (fi ca : Array Operand) : Option Value :=
  match fn, evalL E tmps fi.toList, evalL E tmps ca.toList with
  | .func f, some fi, some ca => some (.func (.func f) ⟨fi⟩ ⟨ca⟩)
  | _, _, _ => none
def stepMakeMap (r : Option Operand) (st : St) : Option R :=
  match r with
  | none => some (.val (.map (some st.next)) (st.new (.map [] 0)))
  | some _ => none
def stepMakeSlice (E : Env) (tmps : Vs) (t : TypeId) (l c : Operand) (st : St) : Option R :=
  match eval E tmps l, eval E tmps c, E.kd t with
  | some (.int .i64 (.ofNat l)), some (.int .i64 (.ofNat c)), some (.slice elem) => (match get E.types elem with
    | some ei =>
      if Nat.ble l c && Nat.ble c most && Nat.ble (c * ei.bytes) most then
        match zerosOf ei c with
        | none => none
        | some zs => some (.val (.slice (some ⟨st.next, 0, some 0⟩) l c) (st.new (.cells zs elem)))
      else none
    | none => none)
  | _, _, _ => none
def stepSlice (E : Env) (tmps : Vs) (t : TypeId) (x : Operand) (lo hi mx : Option Operand) (st : St) : Option Value :=
  match eval E tmps x, evalO E tmps lo, evalO E tmps hi, evalO E tmps mx with
  | some x, some lo, some hi, some mx => sliceOp E st.heap t x lo hi mx
  | _, _, _, _ => none
def stepFieldAddr (E : Env) (tmps : Vs) (s : TypeId) (x : Operand) (f : Nat) : Option Value :=
  match eval E tmps x, E.kd s with
  | some (.pointer (some ⟨b, off, none⟩)), some (.struct fs) => (match get fs f with
    | some (o, t) => (match E.size t with
      | some (_ + 1) => some (ptr b (off + o))
      | _ => none)
    | none => none)
  | _, _ => none
def stepField (E : Env) (tmps : Vs) (s : TypeId) (x : Operand) (f : Nat) : Option Value :=
  match eval E tmps x, E.kd s with
  | some (.agg ⟨cs⟩), some (.struct fs) => (match get fs f with
    | some (o, t) => part E t cs o
    | none => none)
  | _, _ => none
def stepIndexAddr (E : Env) (tmps : Vs) (t : TypeId) (x i : Operand) : Option Value :=
  match eval E tmps x, eval E tmps i, E.kd t with
  | some (.slice (some a) n _), some (.int _ (.ofNat i)), some (.slice elem) => (match E.size elem with
    | some size => if Nat.blt i n then some (ptr a.block (a.off + i * size)) else none
    | none => none)
  | some (.pointer (some ⟨b, off, none⟩)), some (.int _ (.ofNat i)), some (.array n elem) => (match E.size elem with
    | some size => if Nat.blt i n then some (ptr b (off + i * size)) else none
    | none => none)
  | _, _, _ => none
def stepIndex (E : Env) (tmps : Vs) (t : TypeId) (x i : Operand) : Option Value :=
  match eval E tmps x, eval E tmps i, E.kd t with
  | some (.string s), some (.int _ (.ofNat i)), some .string => (match get s.data.toList i with
    | some b => some (.int .u8 b.toNat)
    | none => none)
  | some (.agg ⟨cs⟩), some (.int _ (.ofNat i)), some (.array n elem) => (match E.size elem with
    | some size => if Nat.blt i n then part E elem cs (i * size) else none
    | none => none)
  | _, _, _ => none
def entriesOf (m : Value) (h : Heap) : Option (List MapEntry) :=
  match m with
  | .map none => some []
  | .map (some i) => (match mapAt h i with | some (_, es, _) => some es | none => none)
  | _ => none
def found (ok : Bool) (v : Value) (b : Bool) : Value := if ok then .tuple #[v, .bool b] else v
def stepLookup (E : Env) (tmps : Vs) (t : TypeId) (m k : Operand) (ok : Bool) (st : St) : Option Value :=
  match eval E tmps m, eval E tmps k, E.kd t with
  | some m, some k, some (.map kt elem) => (match entriesOf m st.heap with
    | none => none
    | some es => (match findKey E.P es.isEmpty kt k es with
      | some (some j) => (match get es j with | some e => some (found ok e.val true) | none => none)
      | some none => (match E.zero elem with | some z => some (found ok z false) | none => none)
      | none => none))
  | _, _, _ => none
def stepMapUpdate (E : Env) (tmps : Vs) (t : TypeId) (m k x : Operand) (st : St) : Option R :=
  match eval E tmps m, eval E tmps k, eval E tmps x, E.kd t with
  | some (.map (some i)), some k, some x, some (.map kt _) => (match mapAt st.heap i with
    | some (true, es, cl) => (match findKey E.P false kt k es with
      | some (some j) => (match get es j with
        | some e => if Instr.sameBits 10000 e.key k then some (.val (.tuple #[]) (st.set i (.map (setEntry es j k x) cl))) else none
        | none => none)
      | some none => some (.val (.tuple #[]) (st.set i (.map (es ++ [⟨k, x, cl⟩]) (cl + 1))))
      | none => none)
    | _ => none)
  | _, _, _, _ => none
def stepExtract (E : Env) (tmps : Vs) (t : Operand) (i : Nat) : Option Value :=
  match eval E tmps t with
  | some (.tuple ⟨vs⟩) => get vs i
  | _ => none
def stepRange (E : Env) (tmps : Vs) (t : TypeId) (x : Operand) (st : St) : Option R :=
  match eval E tmps x, E.kd t with
  | some (.string s), some .string => some (.val (ptr st.next 0) (st.new (.strIter s 0)))
  | some (.map none), some (.map _ _) => some (.val (ptr st.next 0) (st.new (.mapIter none 0 [] 0)))
  | some (.map (some m)), some (.map _ _) => (match mapAt st.heap m with
    | some (_, _, cl) => some (.val (ptr st.next 0) (st.new (.mapIter (some m) cl [] cl)))
    | none => none)
  | _, _ => none
def stepNext (E : Env) (tmps : Vs) (it : Operand) (isStr : Bool) (st : St) : Option R :=
  match eval E tmps it with
  | some (.pointer (some ⟨r, 0, none⟩)) => (match find st.heap r, isStr with
    | some (true, .strIter s pos), true =>
      if Nat.blt pos s.size then
        some (.val (.tuple #[.bool true, .int .i64 (.ofNat pos), .int .i32 (Utf8.decode s pos).1]) (st.set r (.strIter s (pos + (Utf8.decode s pos).2))))
      else some (.val (.tuple #[.bool false]) st)
    | some (_, .mapIter none _ _ _), false => some (.val (.tuple #[.bool false]) st)
    | _, _ => none)
  | _ => none
/-- The last of a list of numbers. -/
def lastOf : List Nat → Option Nat
  | [] => none
  | [a] => some a
  | _ :: b :: r => lastOf (b :: r)
def bornAt (b : Nat) : List MapEntry → Option MapEntry
  | [] => none
  | e :: r => if Nat.beq e.born b then some e else bornAt b r
def stepEntry (E : Env) (tmps : Vs) (it : Operand) (st : St) : Option Value :=
  match eval E tmps it with
  | some (.pointer (some ⟨r, 0, none⟩)) => (match find st.heap r with
    | some (_, .mapIter (some m) _ seen stepped) => (match lastOf seen, mapAt st.heap m with
      | some b, some (_, es, clock) => if Nat.beq clock stepped then (match bornAt b es with | some e => some (.tuple #[e.key, e.val]) | none => none) else none
      | _, _ => none)
    | _ => none)
  | _ => none
/-- What a call of a value calls. -/
def target (E : Env) (tmps : Vs) (f : Operand) (args : List Operand) : Option (FuncId × List Value) :=
  match eval E tmps f, evalL E tmps args with
  | some (.func (.func g) ⟨fi⟩ ⟨ca⟩), some xs => (match get E.funcs g with
    | some fn => (match fn.body with | some _ => some (g, fi ++ xs ++ ca) | none => none)
    | none => none)
  | _, _ => none
def stepCall (E : Env) (tmps : Vs) (c : Call) (ty : TypeId) (st : St) : Option R :=
  match c.callee with
  | .builtin b => (match evalL E tmps c.args.toList with
    | some xs => builtinOp E b c.argTypes ty xs st
    | none => none)
  | .value f => (match target E tmps f c.args.toList with
    | some (g, xs) => some (.call g xs)
    | none => none)
  | .invoke .. => none
def step0 (E : Env) (tmps : Vs) (o : Oper) (st : St) : Option R :=
  match o.op with
  | .move x => ret st (eval E tmps x)
  | .assign x => ret st (eval E tmps x)
  | .pick c a b => ret st (stepPick E tmps c a b)
  | .alloc t => stepAlloc E t st
  | .box t x => stepBox E tmps t x st
  | .build t ps => ret st (stepBuild E tmps t ps)
  | .buildSlice t n ps => stepBuildSlice E tmps t n ps st
  | .load t a => ret st (stepLoad E tmps t a st)
  | .store t a x => stepStore E tmps t a x st
  | .nilCheck x => ret st (stepNilCheck E tmps x)
  | .binOp op t x y _ => ret st (stepBin E tmps op t x y)
  | .unOp op _ x => ret st (stepUn E tmps op x)
  | .convert src dst x => stepConvert E tmps src dst x st
  | .makeFunc fn fi ca => ret st (stepMakeFunc E tmps fn fi ca)
  | .makeMap _ r => stepMakeMap r st
  | .makeSlice t l c => stepMakeSlice E tmps t l c st
  | .slice t x lo hi mx => ret st (stepSlice E tmps t x lo hi mx st)
  | .fieldAddr s x f => ret st (stepFieldAddr E tmps s x f)
  | .field s x f => ret st (stepField E tmps s x f)
  | .indexAddr t x i => ret st (stepIndexAddr E tmps t x i)
  | .index t x i => ret st (stepIndex E tmps t x i)
  | .lookup t m k ok => ret st (stepLookup E tmps t m k ok st)
  | .mapUpdate t m k x => stepMapUpdate E tmps t m k x st
  | .insert t m k x => stepMapUpdate E tmps t m k x st
  | .extract t i => ret st (stepExtract E tmps t i)
  | .range t x => stepRange E tmps t x st
  | .next it isStr => stepNext E tmps it isStr st
  | .entry it => ret st (stepEntry E tmps it st)
  | .call c => stepCall E tmps c o.type st
  | _ => none

/-- What is known of an operation. -/
def known (E : Env) (tmps : Vs) (o : Oper) : Option Value :=
  match E.orc o.op with
  | none => none
  | some f => (match evalL E tmps o.op.operands.toList with
    | some vs => f vs
    | none => none)
def step (E : Env) (tmps : Vs) (o : Oper) (st : St) : Option R :=
  match known E tmps o with
  | some v => some (.val v st)
  | none => step0 E tmps o st

def comes (c : Option MapEntry) (r m since : Nat) (seen : List Nat) (clock : Nat) (st : St) : R :=
  match c with
  | some e => .val (.tuple #[.bool true, e.key, e.val]) (st.set r (.mapIter (some m) since (seen ++ [e.born]) clock))
  | none => .val (.tuple #[.bool false]) st
/-- A step of a range over a map: one way for each entry that may come. -/
def nextMap (E : Env) (tmps : List Value) (it : Operand) (st : St) : T R :=
  match eval E tmps it with
  | some (.pointer (some ⟨r, 0, none⟩)) =>
    match find st.heap r with
    | some (true, .mapIter (some m) since seen last) =>
      match mapAt st.heap m with
      | some (_, es, clock) =>
        if !seen.isEmpty && !es.isEmpty && es.all (fun e => e.born ≥ last) then .fail else
        (match cands es since seen with
        | [c] => .ret (comes c r m since seen clock st)
        | cs => .pick cs.length fun i => .of ((get cs i).map fun c => comes c r m since seen clock st))
      | none => .fail
    | _ => .fail
  | _ => .fail
def isMapIter (E : Env) (tmps : List Value) (o : Oper) (st : St) : Bool :=
  match o.op with
  | .next it false => (match eval E tmps it with
    | some (.pointer (some a)) => (match find st.heap a.block with
      | some (_, .mapIter (some _) _ _ _) => true
      | _ => false)
    | _ => false)
  | _ => false
def stepT (E : Env) (tmps : List Value) (o : Oper) (st : St) : T R :=
  if isMapIter E tmps o st then (match o.op with | .next it _ => nextMap E tmps it st | _ => .fail) else .of (step E tmps o st)

/-! ### Code -/
inductive Out where
  | normal | exit (id : Nat) | goto (l : Nat) | ret

def results (E : Env) (h : Heap) (tmps : List Value) : List ResultVar → Option (List Value)
  | [] => some []
  | .tmp t :: r => (match get tmps t, results E h tmps r with
    | some v, some vs => some (v :: vs)
    | _, _ => none)
  | .cell a t :: r => (match get tmps a with
    | some (.pointer (some a)) => (match loadVar E h t a, results E h tmps r with
      | some v, some vs => some (v :: vs)
      | _, _ => none)
    | _ => none)
def asOne : List Value → Value
  | [v] => v
  | vs => .tuple ⟨vs⟩

/-- Does the guard let an operation be done? -/
def wanted (ops : Array Oper) (tmps : List Value) (o : Oper) : Bool :=
  match o.guard with
  | none => true
  | some (j, want) =>
    match (get ops.toList j).bind (·.dst) with
    | some d => (match get tmps d with
      | some (.bool b) => b == want
      | _ => false)
    | none => false

/-- Is the guard's truth no unknown? -/
def guardOk (ops : Array Oper) (tmps : List Value) (o : Oper) : Bool :=
  match o.guard with
  | none => true
  | some (j, _) =>
    match (get ops.toList j).bind (·.dst) with
    | some d => (match get tmps d with
      | some (.chan _) => false
      | _ => true)
    | none => true

/-- The numbers of blocks that a value leads to. -/
def ref1 : Value → List Nat
  | .pointer (some a) => [a.block]
  | .slice (some a) _ _ => [a.block]
  | .map (some i) => [i]
  | .func _ ⟨fi⟩ ⟨ca⟩ => refL1 fi ++ refL1 ca
  | _ => []
where
  refL1 : List Value → List Nat
  | [] => []
  | .pointer (some a) :: r => a.block :: refL1 r
  | .slice (some a) _ _ :: r => a.block :: refL1 r
  | .map (some i) :: r => i :: refL1 r
  | _ :: r => refL1 r
def refL : List Value → List Nat
  | [] => []
  | v :: r => ref1 v ++ refL r
def refs : Value → List Nat
  | .agg ⟨cs⟩ => refL cs
  | .tuple ⟨vs⟩ => refT vs
  | v => ref1 v
where
  refT : List Value → List Nat
  | [] => []
  | .agg ⟨cs⟩ :: r => refL cs ++ refT r
  | v :: r => ref1 v ++ refT r
def refB : Blk → List Nat
  | .cells cs _ => refL cs
  | .map es _ => refE es
  | .strIter _ _ => []
  | .mapIter m _ _ _ => m.toList
where
  refE : List MapEntry → List Nat
  | [] => []
  | e :: r => refs e.val ++ refE r
/-- What is led to from some blocks, block by block. -/
def reach (h : Heap) (n : Nat) : Nat → List Nat → List Nat → List Nat
  | 0, seen, _ => seen
  | _ + 1, seen, [] => seen
  | k + 1, seen, i :: r =>
    if Nat.blt i n || mem i seen then reach h n k seen r else
    match find h i with
    | some (_, b) => reach h n k (i :: seen) (refB b ++ r)
    | none => reach h n k seen r
/-- Of the blocks from number n on, those alone that are led to. -/
def sweep (n : Nat) (keep : List Nat) (h : Heap) : Heap := filt (fun i => Nat.blt i n || mem i keep) h
/-- Of the blocks that were written, those from before. -/
def olds (n : Nat) : List Nat → List Nat
  | [] => []
  | i :: r => if Nat.blt i n then i :: olds n r else olds n r
/-- What blocks that were written lead to. -/
def refsOf (h : Heap) : List Nat → List Nat
  | [] => []
  | i :: r => (match find h i with | some (_, b) => refB b | none => []) ++ refsOf h r
/-- Behind a call: blocks of the call's own to which nothing leads are dropped. (What is dropped can't be read any more: so this needs no proof.) -/
def tidy (n : Nat) (v : Value) (log : List Nat) (h : Heap) : Heap := sweep n (reach h n 100000 [] (refs v ++ refsOf h log)) h
def joinLog : List Nat → List Nat → List Nat
  | [], l => l
  | i :: r, l => joinLog r (addTo i l)

/-! ### Regions whose order is drawn -/
/-- What was noted of an operation: its place, its names, what it touched and wrote, the numbers of the blocks that it made, its value, the heap it left. -/
structure Rec where
  ix : Nat
  dst : Option Tmp
  names : List Tmp
  touch : List Nat
  wr : List Nat
  lo : Nat
  hi : Nat
  v : Value
  heap : Heap
def before : List Oper → List Nat → List Nat
  | [], acc => acc
  | o :: r, acc => before r (acc ++ [o.after.toList.foldl (fun s e => if Region.binds .any e then s ||| 2 ^ e.on ||| (get acc e.on).getD 0 else s) 0])
def blockOf : Value → List Nat
  | .pointer (some a) => [a.block]
  | .slice (some a) _ _ => [a.block]
  | .map (some i) => [i]
  | _ => []
def evalB (E : Env) (tmps : List Value) (x : Operand) : List Nat := match eval E tmps x with | some v => blockOf v | none => []
/-- An iterator's block, and its map's. -/
def iterB (h : Heap) : List Nat → List Nat
  | [r] => (match find h r with
    | some (_, .mapIter (some m) _ _ _) => [r, m]
    | _ => [r])
  | l => l
/-- The numbers of the blocks that an operation (other than a call) may read or write. -/
def foot (E : Env) (tmps : List Value) (h : Heap) (o : Oper) : List Nat :=
  match o.op with
  | .load _ a => evalB E tmps a
  | .store _ a _ => evalB E tmps a
  | .convert _ _ x => evalB E tmps x
  | .slice _ x _ _ _ => evalB E tmps x
  | .lookup _ m _ _ => evalB E tmps m
  | .mapUpdate _ m _ _ => evalB E tmps m
  | .insert _ m _ _ => evalB E tmps m
  | .range _ x => evalB E tmps x
  | .next it _ => iterB h (evalB E tmps it)
  | .entry it => iterB h (evalB E tmps it)
  | .call c => (match c.callee with
    | .builtin _ => evalBs E tmps c.args.toList
    | _ => [])
  | _ => []
where
  evalBs (E : Env) (tmps : List Value) : List Operand → List Nat
  | [] => []
  | x :: r => evalB E tmps x ++ evalBs E tmps r
def meets : List Nat → List Nat → Bool
  | [], _ => false
  | i :: r, l => mem i l || meets r l
def inRange (lo hi : Nat) : List Nat → Bool
  | [] => false
  | i :: r => (Nat.ble lo i && Nat.blt i hi) || inRange lo hi r
def memO : Option Tmp → List Nat → Bool
  | none, _ => false
  | some d, l => mem d l
/-- May two operations be done in either order? -/
def apart1 (x r : Rec) : Bool :=
  !meets x.touch r.wr && !inRange r.lo r.hi x.touch && !meets x.wr r.touch && !memO r.dst x.names && !memO x.dst r.names
def apartAll (pm : Nat) (x : Rec) : List Rec → Bool
  | [] => true
  | r :: rs => (pm.testBit r.ix || apart1 x r) && apartAll pm x rs
def allIn : List Nat → List Nat → Bool
  | [], _ => true
  | i :: r, l => mem i l && allIn r l
def allGe (n : Nat) : List Nat → Bool
  | [] => true
  | i :: r => Nat.ble n i && allGe n r
def afterOk (j : Nat) : List Edge → Bool
  | [] => true
  | e :: r => (!Region.binds .any e || Nat.blt e.on j) && afterOk j r
/-- The part of the heap that an operation may see. -/
def only (ng : Nat) (f : List Nat) (h : Heap) : Heap := filt (fun i => Nat.blt i ng || mem i f) h
def newOnes (lo hi : Nat) (h : Heap) : Heap := filt (fun i => Nat.ble lo i && Nat.blt i hi) h
def over (w : List Nat) (g : Heap) : Heap → Heap
  | [] => []
  | (i, e) :: r => if mem i w then (match find g i with | some e => (i, e) :: over w g r | none => over w g r) else (i, e) :: over w g r
/-- The heap with what an operation made and wrote. -/
def mergeR (r : Rec) (h : Heap) : Heap := newOnes r.lo r.hi r.heap ++ over r.wr r.heap h

abbrev Res := Out × List Value × St
abbrev Run := List Value → St → T Res
abbrev CallF := FuncId → List Value → St → T (Value × St)

def region (E : Env) (cf : CallF) (ops : Array Oper) : List Oper → Run
  | [], tmps, st => .ret (.normal, tmps, st)
  | o :: rest, tmps, st =>
    if guardOk ops tmps o then
      if wanted ops tmps o then
        (stepT E tmps o st).bind fun r => match r with
        | .val v st => region E cf ops rest (put tmps o.dst v) st
        | .call f args => (cf f args st).bind fun r => region E cf ops rest (put tmps o.dst r.1) r.2
      else region E cf ops rest (put tmps o.dst (.tuple #[])) st
    else .fail
/-- What an operation of a drawn region comes to, beside those that may be done behind it: it sees what it touches alone. -/
def alone (E : Env) (cf : CallF) (tmps : List Value) (o : Oper) (st : St) : Option (List Nat × Value × St) :=
  match o.op with
  | .call { callee := .value f, args, .. } =>
    (match target E tmps f args.toList with
    | some (g, xs) =>
      (match reach st.heap 0 100000 [] (refL xs) with
      | t => (match cf g xs ⟨only E.ng t st.heap, st.next, []⟩ with
        | .ret (v, g) => some (t, v, g)
        | _ => none))
    | none => none)
  | _ =>
    (match step E tmps o ⟨only E.ng (foot E tmps st.heap o) st.heap, st.next, []⟩ with
    | some (.val v g) => some (foot E tmps st.heap o, v, g)
    | _ => none)
def tmpsOf : List Operand → List Tmp
  | [] => []
  | .tmp t :: r => t :: tmpsOf r
  | _ :: r => tmpsOf r
def dstL : Option Tmp → List Tmp
  | some d => [d]
  | none => []
/-- The temporaries that an operation names. -/
def namesOf (ops : Array Oper) (o : Oper) : List Tmp :=
  dstL o.dst ++ (match o.guard with | some (j, _) => dstL ((get ops.toList j).bind (·.dst)) | none => []) ++ tmpsOf o.op.operands.toList
def recOf (E : Env) (cf : CallF) (ops : Array Oper) (tmps : List Value) (o : Oper) (j : Nat) (st : St) : Option Rec :=
  if !guardOk ops tmps o then none else
  if wanted ops tmps o then
    match alone E cf tmps o st with
    | some (f, v, g) => some ⟨j, o.dst, namesOf ops o, f, olds st.next g.log, st.next, g.next, v, g.heap⟩
    | none => none
  else some ⟨j, o.dst, namesOf ops o, [], [], st.next, st.next, .tuple #[], []⟩
def recOk (E : Env) (o : Oper) (r : Rec) : Bool := allIn r.wr r.touch && allGe E.ng r.wr && Nat.ble r.lo r.hi && afterOk r.ix o.after.toList
def stRec (r : Rec) (st : St) : St := ⟨mergeR r st.heap, r.hi, joinLog r.wr st.log⟩
/-- A region whose order is drawn: in the text's order; what might be done in another order must not meet. -/
def drawn (E : Env) (cf : CallF) (ops : Array Oper) : List Oper → List Nat → Nat → List Rec → Run
  | [], _, _, _, tmps, st => .ret (.normal, tmps, st)
  | o :: rest, bs, j, rs, tmps, st =>
    match recOf E cf ops tmps o j st with
    | some r =>
      if apartAll ((get bs j).getD 0) r rs && recOk E o r then drawn E cf ops rest bs (j + 1) (r :: rs) (put tmps r.dst r.v) (stRec r st)
      else .fail
    | none => .fail

def andThen (f g : Run) : Run := fun tmps st => (f tmps st).bind fun r => match r with
  | (.normal, tmps, st) => g tmps st
  | r => .ret r
/-- A loop of at most so many rounds. -/
def rounds (f : Run) : Nat → Run
  | 0, _, _ => .fail
  | n + 1, tmps, st => (f tmps st).bind fun r => match r with
    | (.normal, tmps, st) => rounds f n tmps st
    | r => .ret r
/-- A scope: what a goto of its own goes on with; at most so many. -/
def jumps (jump : Nat → Option Run) : Nat → Res → T Res
  | 0, _ => .fail
  | n + 1, r => match r with
    | (.goto l, tmps, st) => (match jump l with
      | some f => (f tmps st).bind (jumps jump n)
      | none => .ret (.goto l, tmps, st))
    | r => .ret r
def leaveBlock (id : Nat) (r : Res) : Res := match r with
  | (.exit j, tmps, st) => if Nat.beq j id then (.normal, tmps, st) else (.exit j, tmps, st)
  | r => r

/-- What code does, and what it does from a label on. -/
structure Den where
  run : Run
  jump : Nat → Option Run
def noJump : Nat → Option Run := fun _ => none
def den (E : Env) (cf : CallF) (N : Nat) : Code → Den
  | .skip => ⟨fun tmps st => .ret (.normal, tmps, st), noJump⟩
  | .label l => ⟨fun tmps st => .ret (.normal, tmps, st), fun l' => if Nat.beq l l' then some fun tmps st => .ret (.normal, tmps, st) else none⟩
  | .ret => ⟨fun tmps st => .ret (.ret, tmps, st), noJump⟩
  | .exit id => ⟨fun tmps st => .ret (.exit id, tmps, st), noJump⟩
  | .goto l => ⟨fun tmps st => .ret (.goto l, tmps, st), noJump⟩
  | .seq a b => ⟨andThen (den E cf N a).run (den E cf N b).run, fun l => match (den E cf N a).jump l with
    | some f => some (andThen f (den E cf N b).run)
    | none => (den E cf N b).jump l⟩
  | .cond x a b => ⟨fun tmps st => match eval E tmps x with
    | some (.bool true) => (den E cf N a).run tmps st
    | some (.bool false) => (den E cf N b).run tmps st
    | _ => .fail, noJump⟩
  | .block id b => ⟨fun tmps st => ((den E cf N b).run tmps st).bind fun r => .ret (leaveBlock id r), noJump⟩
  | .loop b => ⟨rounds (den E cf N b).run N, noJump⟩
  | .scope b => ⟨fun tmps st => ((den E cf N b).run tmps st).bind (jumps (den E cf N b).jump N), noJump⟩
  | .region _ ops draw => ⟨fun tmps st => if draw then drawn E cf ops ops.toList (before ops.toList []) 0 [] tmps st else region E cf ops ops.toList tmps st, noJump⟩
  | .rangeFunc .. | .refuse _ => ⟨fun _ _ => .fail, noJump⟩

def pad (l : List Value) : Nat → List Value
  | 0 => l
  | n + 1 => match l with
    | [] => .tuple #[] :: pad [] n
    | v :: r => v :: pad r n
def leaveCall (E : Env) (fn : Func) (st : St) (r : Res) : T (Value × St) :=
  match r with
  | (.normal, tmps, st') | (.ret, tmps, st') =>
    (match results E st'.heap tmps fn.results.toList with
    | some vs => .ret (asOne vs, ⟨tidy st.next (asOne vs) (olds st.next st'.log) st'.heap, st'.next, joinLog (olds st.next st'.log) st.log⟩)
    | none => .fail)
  | _ => .fail
/-- A call: at most n calls deep, each loop of at most N rounds. -/
def call (E : Env) (N : Nat) : Nat → CallF
  | 0, _, _, _ => .fail
  | n + 1, f, args, st =>
    match E.prim f args st with
    | some r => .ret r
    | none =>
    match get E.funcs f with
    | none => .fail
    | some fn =>
      match fn.body with
      | none => .fail
      | some c => ((den E (call E N n) N c).run (pad args fn.ntmps) ⟨st.heap, st.next, []⟩).bind (leaveCall E fn st)

end Go.Am
