/- A deterministic evaluator over the model's code: its own store of blocks, no tape, no capacities that are drawn. -/
import Derived.RangeFuncLeaves
import Derived.OrdersIn
import Derived.Still
import Derived.Laws.World
import Derived.Laws.Cells
import Derived.Laws.Rows
import Derived.Laws.AppendOwn
namespace Go.Abs

/-- How a block may be used: read alone; read and written, its capacity known; made by an append that had to grow (its capacity is at least its length; the cells of an element); not at all any more. -/
inductive Mode where
  | ro | rw
  | grown (size : Nat)
  | dead
  deriving DecidableEq

def Mode.writable : Mode → Bool
  | .rw | .grown _ => true
  | _ => false

structure Blk where
  cells : List Value
  mode : Mode

structure LoopRec where
  fr : List Value
  params : Array Tmp
  assign : Code
  body : Code
  state : LoopState
  pending : Option Code

/-- The store: blocks and loops over functions, the newest first. -/
structure St where
  rev : List Blk
  loops : List LoopRec

def St.size (s : St) : Nat := s.rev.length
def St.get (s : St) (b : Nat) : Option Blk := if b < s.size then s.rev[s.size - 1 - b]? else none
def St.push (s : St) (k : Blk) : St := { s with rev := k :: s.rev }
def St.set (s : St) (b : Nat) (k : Blk) : St := if b < s.size then { s with rev := s.rev.set (s.size - 1 - b) k } else s
def St.nloops (s : St) : Nat := s.loops.length
def St.loop (s : St) (l : Nat) : Option LoopRec := if l < s.nloops then s.loops[s.nloops - 1 - l]? else none
def St.pushLoop (s : St) (r : LoopRec) : St := { s with loops := r :: s.loops }
def St.setLoop (s : St) (l : Nat) (r : LoopRec) : St := if l < s.nloops then { s with loops := s.loops.set (s.nloops - 1 - l) r } else s

def St.cell (s : St) (b i : Nat) : Option Value :=
  match s.get b with
  | some ⟨cs, m⟩ => if m = .dead then none else cs[i]?
  | none => none

def St.cells (s : St) (b i n : Nat) : Option (List Value) :=
  match s.get b with
  | some ⟨cs, m⟩ => if m = .dead then none else if i + n ≤ cs.length then some ((cs.drop i).take n) else none
  | none => none

def scalar : Value → Bool
  | .agg _ | .tuple _ => false
  | _ => true

def isVal : Value → Bool
  | .tuple _ => false
  | _ => true

def splice (cs : List Value) (i : Nat) : List Value → List Value
  | [] => cs
  | v :: vs => splice (cs.set i v) (i + 1) vs

def St.setCells (s : St) (b i : Nat) (vs : List Value) : Option St :=
  match s.get b with
  | some ⟨cs, m⟩ => if m.writable && decide (i + vs.length ≤ cs.length) && vs.all scalar then some (s.set b ⟨splice cs i vs, m⟩) else none
  | none => none

/-! ### Types -/

def shapeOf (P : Program) (t : TypeId) : Option (Bool × Nat) :=
  match P.underlying t, P.info? t with
  | some (.struct _), some i => some (true, i.size)
  | some (.array _ _), some i => some (true, i.size)
  | some _, some i => some (false, i.size)
  | _, _ => none

/-- A slice type's element type, its cells and its bytes. -/
def sliceElem (P : Program) (t : TypeId) : Option (TypeId × Nat × Nat) :=
  match P.underlying t with
  | some (.slice e) => match P.info? e with
    | some i => some (e, i.size, i.bytes)
    | none => none
  | _ => none

/-- An array type's length, element type and the element's cells. -/
def arrElem (P : Program) (t : TypeId) : Option (Nat × TypeId × Nat) :=
  match P.underlying t with
  | some (.array n e) => match P.info? e with
    | some i => some (n, e, i.size)
    | none => none
  | _ => none

/-- A struct's field: where it lies, its type, its cells. -/
def fieldOf (P : Program) (t : TypeId) (i : Nat) : Option (Nat × TypeId × Nat) :=
  match P.underlying t with
  | some (.struct fs) => match fs[i]? with
    | some f => match P.info? f.type with
      | some j => some (f.offset, f.type, j.size)
      | none => none
    | none => none
  | _ => none

/-- Do all fields of a struct type have a size? -/
def fieldsOk (P : Program) (t : TypeId) : Bool :=
  match P.underlying t with
  | some (.struct fs) => fs.all fun f => (P.info? f.type).isSome
  | _ => false

/-! ### Values -/

def splain : Value → Bool
  | .bool _ | .int _ _ | .string _ | .pointer none | .slice none _ _ | .nilFunc | .nilIface => true
  | _ => false

/-- No address in it. -/
def plain : Value → Bool
  | .agg cs => cs.toList.all splain
  | v => splain v

def zeroOf (P : Program) (t : TypeId) : Option Value :=
  match P.info? t with
  | some i => match i.zero with
    | some z => if plain z then some z else none
    | none => none
  | none => none

/-- A computation that asks nothing of the world. -/
def pureRun {α : Type} (P : Program) : Sem α → Option α
  | .pure a => some a
  | .program k => pureRun P (k P)
  | _ => none

/-- The same, of a value without addresses. -/
def pureVal (P : Program) (x : Sem Value) : Option Value :=
  match pureRun P x with
  | some v => if plain v then some v else none
  | none => none

/-- Equality that is seen at once. -/
def ssame : Value → Value → Bool
  | .bool a, .bool b => a == b
  | .int k a, .int l b => decide (k = l) && decide (a = b)
  | .pointer none, .pointer none => true
  | .pointer (some a), .pointer (some b) => decide (a = b)
  | .slice none a b, .slice none c d => decide (a = c) && decide (b = d)
  | .slice (some x) a b, .slice (some y) c d => decide (x = y) && decide (a = c) && decide (b = d)
  | .nilFunc, .nilFunc => true
  | .nilIface, .nilIface => true
  | .func (.func f) a b, .func (.func g) c d => decide (f = g) && a.isEmpty && c.isEmpty && b.isEmpty && d.isEmpty
  | _, _ => false

def sames : List Value → List Value → Bool
  | [], [] => true
  | a :: l, b :: m => ssame a b && sames l m
  | _, _ => false

def same : Value → Value → Bool
  | .agg a, .agg b => sames a.toList b.toList
  | a, b => ssame a b

abbrev Fr := List Value

def getf (fr : Fr) (t : Tmp) : Value := fr.getD t undef
def setf (fr : Fr) (d : Option Tmp) (v : Value) : Fr :=
  match d with
  | some d => fr.set d v
  | none => fr

def ev (fr : Fr) : Operand → Value
  | .tmp t => getf fr t
  | .const v => if plain v then v else undef
  | .global _ => undef
  | .func f => .func (.func f) #[] #[]

/-! ### Operations -/

def aload (P : Program) (s : St) (t : TypeId) : Value → Option Value
  | .pointer (some ⟨b, off, none⟩) =>
    match shapeOf P t with
    | some (true, n) => (s.cells b off n).map fun l => .agg l.toArray
    | some (false, _) => s.cell b off
    | none => none
  | _ => none

def astore (P : Program) (s : St) (t : TypeId) (x : Value) : Value → Option St
  | .pointer (some ⟨b, off, none⟩) =>
    match shapeOf P t with
    | some (_, n) => if x.cells.size = n then s.setCells b off x.cells.toList else none
    | none => none
  | _ => none

def copies : Nat → List Value → List Value
  | 0, _ => []
  | n + 1, z => z ++ copies n z

/-- Where the parts of a built value lie. -/
def placeOf (P : Program) (t : TypeId) (i : Nat) : Option (Nat × Nat) :=
  match fieldOf P t i with
  | some (o, _, n) => some (o, n)
  | none => match arrElem P t with
    | some (_, _, n) => some (i * n, n)
    | none => none

def afill (place : Nat → Option (Nat × Nat)) (cells : List Value) : List (Nat × Value) → Option (List Value)
  | [] => some cells
  | (i, v) :: rest =>
    match place i with
    | none => none
    | some (off, size) =>
      if isVal v ∧ v.cells.size = size ∧ off + size ≤ cells.length then afill place (splice cells off v.cells.toList) rest else none

def abuild (P : Program) (t : TypeId) (parts : List (Nat × Value)) : Option Value :=
  if fieldsOk P t || (arrElem P t).isSome then
    match zeroOf P t with
    | some z => (afill (placeOf P t) z.cells.toList parts).map fun cs => .agg cs.toArray
    | none => none
  else none

/-- A new block's cells, and the value that leads to it by its number. -/
def abuildSlice (P : Program) (t : TypeId) (len : Nat) (parts : List (Nat × Value)) : Option (List Value × (Nat → Value)) :=
  match sliceElem P t with
  | some (e, size, _) =>
    match zeroOf P e with
    | some z =>
      if len * size ≤ 2 ^ 20 ∧ z.cells.size = size ∧ 0 < size then
        match afill (fun i => some (i * size, size)) (copies len z.cells.toList) parts with
        | some cs => some (cs, fun b => .slice (some ⟨b, 0, none⟩) len len)
        | none => none
      else none
    | none => none
  | none => none

def amakeSlice (P : Program) (t : TypeId) : Value → Value → Option (List Value × (Nat → Value))
  | .int _ l, .int _ c =>
    match sliceElem P t with
    | some (e, size, bytes) =>
      match zeroOf P e with
      | some z =>
        if 0 ≤ l ∧ l ≤ c ∧ c ≤ 2 ^ 20 ∧ bytes ≤ 2 ^ 10 ∧ z.cells.size = size ∧ 0 < size then
          some (copies c.toNat z.cells.toList, fun b => .slice (some ⟨b, 0, none⟩) l.toNat c.toNat)
        else none
      | none => none
    | none => none
  | _, _ => none

/-- Do a block's slices have just the capacity that they show? some (some size): no: it has grown. -/
def exactCap (s : St) (b : Nat) : Option (Option Nat) :=
  match s.get b with
  | some ⟨_, .grown k⟩ => some (some k)
  | some ⟨_, .dead⟩ => none
  | some _ => some none
  | none => none

/-- A slice's bound. -/
def abound (y : Nat) : Value → Option Nat
  | .int _ i => if 0 ≤ i ∧ i ≤ y then some i.toNat else none
  | _ => none

/-- The result of slicing: (low, high, max). -/
def abounds (len cap : Nat) (lo hi mx : Option Value) : Option (Nat × Nat × Nat) :=
  match (match mx with | some v => abound cap v | none => some cap) with
  | none => none
  | some m =>
    match (match hi, mx with | some v, _ => abound m v | none, none => some len | none, some _ => none) with
    | none => none
    | some h =>
      match (match lo with | some v => abound h v | none => some 0) with
      | none => none
      | some l => if h ≤ m then some (l, h, m) else none

/-- spot: none: as the block has it (a grown block's slices have at least this capacity); some 0: exactly this capacity; some 1: empty, at or behind this place, capacity not known; some 2: empty, without capacity, wherever it is. -/
def aslice (P : Program) (s : St) (t : TypeId) (x : Value) (lo hi mx : Option Value) : Option Value :=
  match arrElem P t with
  | some (n, _, size) =>
    match x with
    | .pointer (some ⟨b, off, none⟩) =>
      match abounds n n lo hi mx with
      | some (l, h, m) => some (.slice (some ⟨b, if m = l then off else off + l * size, some 0⟩) (h - l) (m - l))
      | none => none
    | _ => none
  | none =>
    match sliceElem P t, x with
    | some _, .slice none 0 0 =>
      match abounds 0 0 lo hi mx with
      | some _ => some (.slice none 0 0)
      | none => none
    | some (_, size, _), .slice (some ⟨b, off, sp⟩) len cap =>
      match abounds len cap lo hi mx with
      | some (l, h, m) =>
        if sp = some 2 then some (.slice (some ⟨b, off, some 2⟩) 0 0)
        else if sp = some 1 then (if mx.isNone then some (.slice (some ⟨b, off, some 1⟩) 0 0) else none)
        else if mx.isSome || sp.isSome then some (.slice (some ⟨b, if m = l then off else off + l * size, some 0⟩) (h - l) (m - l))
        else match exactCap s b with
          | some (some k) =>
            if k = size then
              (if m = l then some (.slice (some ⟨b, off + l * size, some 1⟩) 0 0) else some (.slice (some ⟨b, off + l * size, none⟩) (h - l) (m - l)))
            else none
          | some none => some (.slice (some ⟨b, if m = l then off else off + l * size, none⟩) (h - l) (m - l))
          | none => none
      | none => none
    | _, _ => none

def aindexAddr (P : Program) (t : TypeId) (x : Value) : Value → Option Value
  | .int _ i =>
    match arrElem P t with
    | some (n, _, size) =>
      match x with
      | .pointer (some ⟨b, off, none⟩) => if 0 ≤ i ∧ i < n then some (.pointer (some ⟨b, off + i.toNat * size, none⟩)) else none
      | _ => none
    | none =>
      match sliceElem P t, x with
      | some (_, size, _), .slice (some ⟨b, off, _⟩) len _ => if 0 ≤ i ∧ i < len then some (.pointer (some ⟨b, off + i.toNat * size, none⟩)) else none
      | _, _ => none
  | _ => none

def afieldAddr (P : Program) (t : TypeId) (x : Value) (i : Nat) : Option Value :=
  match x, fieldOf P t i with
  | .pointer (some ⟨b, off, none⟩), some (o, _, size) => if size = 0 then none else some (.pointer (some ⟨b, off + o, none⟩))
  | _, _ => none

/-- A part of an aggregate. -/
def apart (P : Program) (t : TypeId) (cs : List Value) (off : Nat) : Option Value :=
  match shapeOf P t with
  | some (true, n) => some (.agg ((cs.drop off).take n).toArray)
  | some (false, _) => cs[off]?
  | none => none

def afield (P : Program) (t : TypeId) (x : Value) (i : Nat) : Option Value :=
  match x, fieldOf P t i with
  | .agg cs, some (o, u, _) => apart P u cs.toList o
  | _, _ => none

def aindex (P : Program) (t : TypeId) (x i : Value) : Option Value :=
  match x, i, arrElem P t with
  | .agg cs, .int _ j, some (n, e, size) => if 0 ≤ j ∧ j < n then apart P e cs.toList (j.toNat * size) else none
  | _, _, _ => if plain x && plain i then pureVal P (Instr.index t x i) else none

/-- What an operation leaves that was not carried out. -/
def skipped : Value := .tuple #[.tuple #[]]
def isSkipped : Value → Bool
  | .tuple a => match a.toList with
    | [.tuple b] => b.isEmpty
    | _ => false
  | _ => false

def aextract (x : Value) (i : Nat) : Option Value :=
  match x with
  | .tuple vs => if isSkipped (.tuple vs) then none else vs[i]?
  | _ => none

def anilCheck : Value → Option Value
  | .pointer (some a) => some (.pointer (some a))
  | .func (.func f) a b => some (.func (.func f) a b)
  | .func (.yield l) a b => some (.func (.yield l) a b)
  | _ => none

def aint (op : BinOp) (k : IntKind) (a b : Int) : Option Value :=
  match op with
  | .add => some (.int k (k.wrap (a + b)))
  | .sub => some (.int k (k.wrap (a - b)))
  | .mul => some (.int k (k.wrap (a * b)))
  | .quo => if b = 0 then none else some (.int k (k.wrap (a.tdiv b)))
  | .rem => if b = 0 then none else some (.int k (a.tmod b))
  | .eql => some (.bool (a == b))
  | .neq => some (.bool (a != b))
  | .lss => some (.bool (decide (a < b)))
  | .leq => some (.bool (decide (a ≤ b)))
  | .gtr => some (.bool (decide (a > b)))
  | .geq => some (.bool (decide (a ≥ b)))
  | _ => none

/-- Is a slice, a pointer or a function nil? The type must be of that kind. -/
def anil (P : Program) (t : TypeId) (x y : Value) : Option Bool :=
  match P.underlying t, x, y with
  | some (.slice _), .slice (some _) _ _, .slice none _ _ => some false
  | some (.slice _), .slice none _ _, .slice (some _) _ _ => some false
  | some (.pointer _), .pointer (some _), .pointer none => some false
  | some (.pointer _), .pointer none, .pointer (some _) => some false
  | some (.func _ _ _), .func _ _ _, .nilFunc => some false
  | some (.func _ _ _), .nilFunc, .func _ _ _ => some false
  | _, _, _ => none

def abin (P : Program) (op : BinOp) (t : TypeId) (xo yo : Operand) (x y : Value) : Option Value :=
  match x, y with
  | .int k a, .int l b =>
    if k = l then match aint op k a b with
      | some v => some v
      | none => pureVal P (do eqGuard op t xo yo x y; binOp op t x y)
    else pureVal P (do eqGuard op t xo yo x y; binOp op t x y)
  | x, y =>
    if plain x && plain y then pureVal P (do eqGuard op t xo yo x y; binOp op t x y)
    else match op, anil P t x y with
      | .eql, some b => some (.bool b)
      | .neq, some b => some (.bool (!b))
      | _, _ => none

/-- Operations that ask nothing of the store. -/
def aquiet (P : Program) (o : Op) (fr : Fr) : Option Value :=
  match o with
  | .move x | .assign x => some (ev fr x)
  | .pick c a b => match ev fr c with
    | .bool t => some (if t then ev fr a else ev fr b)
    | _ => none
  | .build t parts => abuild P t (parts.toList.map fun (i, x) => (i, ev fr x))
  | .nilCheck x => anilCheck (ev fr x)
  | .binOp op t x y _ => abin P op t x y (ev fr x) (ev fr y)
  | .unOp op _ x => if plain (ev fr x) then pureVal P (Op.unary op (ev fr x)) else none
  | .convert a b x => if plain (ev fr x) then pureVal P (convert a b (ev fr x)) else none
  | .makeFunc (.func f) a b => some (.func (.func f) (a.map (ev fr)) (b.map (ev fr)))
  | .fieldAddr t x i => afieldAddr P t (ev fr x) i
  | .field t x i => afield P t (ev fr x) i
  | .indexAddr t x i => aindexAddr P t (ev fr x) (ev fr i)
  | .index t x i => aindex P t (ev fr x) (ev fr i)
  | .extract x i => aextract (ev fr x) i
  | .call { callee := .builtin .len, args, argTypes } =>
    match args.toList, argTypes.toList with
    | [x], [t] => match ev fr x, sliceElem P t with
      | .slice _ n _, some _ => some (goInt n)
      | v, _ => match arrElem P t with
        | some (n, _, _) => some (goInt n)
        | none => if plain v then pureVal P (Builtin.len_ #[t] 0 #[v]) else none
    | _, _ => none
  | .call { callee := .builtin .min, args, .. } => if (args.map (ev fr)).toList.all splain then pureVal P (Builtin.min_ #[] 0 (args.map (ev fr))) else none
  | .call { callee := .builtin .max, args, .. } => if (args.map (ev fr)).toList.all splain then pureVal P (Builtin.max_ #[] 0 (args.map (ev fr))) else none
  | .call { callee := .builtin .cap, args, argTypes } => if (args.map (ev fr)).toList.all splain then pureVal P (Builtin.cap_ argTypes 0 (args.map (ev fr))) else none
  | _ => none

/-- Operations that make a block. -/
def afresh (P : Program) (o : Op) (fr : Fr) : Option (List Value × (Nat → Value)) :=
  match o with
  | .alloc t => match zeroOf P t with
    | some z => some (z.cells.toList, fun b => .pointer (some ⟨b, 0, none⟩))
    | none => none
  | .box _ x => if isVal (ev fr x) then some ((ev fr x).cells.toList, fun b => .pointer (some ⟨b, 0, none⟩)) else none
  | .buildSlice t len parts => abuildSlice P t len (parts.toList.map fun (i, x) => (i, ev fr x))
  | .makeSlice t l c => amakeSlice P t (ev fr l) (ev fr c)
  | _ => none

/-- What is appended: cells, and how many elements. -/
def asource (P : Program) (s : St) (e : TypeId) (size : Nat) (zeros : Bool) (x : Value) : Option (List Value × Nat) :=
  if zeros then
    match x, zeroOf P e with
    | .int .i64 n, some z => if 0 ≤ n ∧ n ≤ 2 ^ 20 then some (copies n.toNat z.cells.toList, n.toNat) else none
    | _, _ => none
  else match x with
    | .slice none 0 _ => some ([], 0)
    | .slice (some ⟨b, off, _⟩) n _ => if n = 0 then some ([], 0) else (s.cells b off (n * size)).map fun l => (l, n)
    | _ => none

def isIntD : TypeDesc → Bool
  | .int _ => true
  | _ => false

def isIntType (P : Program) (t : TypeId) : Bool :=
  match P.underlying t with
  | some d => isIntD d
  | none => false

def kill (s : St) (b : Nat) : St :=
  match s.get b with
  | some ⟨cs, _⟩ => s.set b ⟨cs, .dead⟩
  | none => s

/-- A block that an append makes. -/
def St.grow (s : St) (size : Nat) (cs : List Value) (n : Nat) : Value × St := (.slice (some ⟨s.size, 0, none⟩) n n, s.push ⟨cs, .grown size⟩)

def aappend (P : Program) (s : St) (st xt : TypeId) (x y : Value) : Option (Value × St) :=
  match sliceElem P st with
  | none => none
  | some (e, size, bytes) =>
    match asource P s e size (isIntType P xt) y with
    | none => none
    | some (new, n) =>
      if ¬ (bytes ≤ 2 ^ 10 ∧ 0 < bytes ∧ 0 < size ∧ new.length = n * size ∧ (zeroOf P e).map (·.cells.size) = some size ∧ (P.underlying xt).isSome ∧ new.all scalar = true) then none else
      match x with
      | .slice none 0 0 => if n = 0 then some (.slice none 0 0, s) else if n ≤ 2 ^ 20 then some (s.grow size new n) else none
      | .slice (some ⟨b, off, sp⟩) len cap =>
        if ¬ len + n ≤ 2 ^ 20 then none
        else if n = 0 then (if len ≤ cap then some (.slice (some ⟨b, off, sp⟩) len cap, s) else none)
        else if sp = some 2 then some (s.grow size new n)
        else if sp = some 1 then
          (if exactCap s b = some (some size) then some ((kill s b).grow size new n) else none)
        else if len + n ≤ cap then (s.setCells b (off + len * size) new).map fun s' => (.slice (some ⟨b, off, sp⟩) (len + n) cap, s')
        else match s.cells b off (len * size) with
          | none => none
          | some old =>
            if sp.isSome then some (s.grow size (old ++ new) (len + n))
            else match exactCap s b with
              | some none => some (s.grow size (old ++ new) (len + n))
              | some (some k) => if k = size then some ((kill s b).grow size (old ++ new) (len + n)) else none
              | none => none
      | _ => none

def acopy (P : Program) (s : St) (dt : TypeId) (x y : Value) : Option (Value × St) :=
  match sliceElem P dt, x, y with
  | some (_, size, _), .slice a dl _, .slice a' sl _ =>
    if min sl dl = 0 then some (goInt 0, s) else
    match a, a' with
    | some ⟨b, off, _⟩, some ⟨b', off', _⟩ =>
      match s.cells b' off' (min sl dl * size) with
      | some l => (s.setCells b off l).map fun s' => (goInt (min sl dl : Nat), s')
      | none => none
    | _, _ => none
  | _, _, _ => none

def aclear (P : Program) (s : St) (t : TypeId) (x : Value) : Option (Value × St) :=
  match sliceElem P t, x with
  | some _, .slice none _ _ => some (undef, s)
  | some (e, size, _), .slice (some ⟨b, off, _⟩) n _ =>
    match zeroOf P e with
    | some z => if z.cells.size = size ∧ 0 < size then
        (if n = 0 then some (undef, s) else (s.setCells b off (copies n z.cells.toList)).map fun s' => (undef, s')) else none
    | none => none
  | _, _ => none

/-- Operations that may change blocks; calls of functions go by 'call'. -/
def ahard (P : Program) (call : Value → List Value → St → Option (Value × St)) (o : Op) (fr : Fr) (s : St) : Option (Value × St) :=
  match o with
  | .store t a x => (astore P s t (ev fr x) (ev fr a)).map fun s' => (undef, s')
  | .call { callee := .value f, args, .. } => call (ev fr f) (args.toList.map (ev fr)) s
  | .call { callee := .builtin .append, args, argTypes } =>
    match args.toList, argTypes.toList with
    | [x, y], [st, xt] => aappend P s st xt (ev fr x) (ev fr y)
    | _, _ => none
  | .call { callee := .builtin .copy, args, argTypes } =>
    match args.toList, argTypes.toList with
    | [x, y], t :: _ => acopy P s t (ev fr x) (ev fr y)
    | _, _ => none
  | .call { callee := .builtin .clear, args, argTypes } =>
    match args.toList, argTypes.toList with
    | [x], t :: _ => aclear P s t (ev fr x)
    | _, _ => none
  | _ => none

inductive Class where
  | quiet | load | slice | fresh | hard
  deriving DecidableEq

def classOf : Op → Class
  | .load _ _ => .load
  | .slice .. => .slice
  | .alloc _ | .box _ _ | .buildSlice .. | .makeSlice .. => .fresh
  | .store .. => .hard
  | .call { callee := .value _, .. } => .hard
  | .call { callee := .builtin b, .. } => match b with
    | .append | .copy | .clear => .hard
    | _ => .quiet
  | _ => .quiet

/-- Operations that ask the store and leave it. -/
def aread (P : Program) (o : Op) (fr : Fr) (s : St) : Option Value :=
  match o with
  | .load t a => aload P s t (ev fr a)
  | .slice t x lo hi mx => aslice P s t (ev fr x) (lo.map (ev fr)) (hi.map (ev fr)) (mx.map (ev fr))
  | _ => none

def aop (P : Program) (call : Value → List Value → St → Option (Value × St)) (o : Op) (fr : Fr) (s : St) : Option (Value × St) :=
  match classOf o with
  | .quiet => (aquiet P o fr).map fun v => (v, s)
  | .load | .slice => (aread P o fr s).map fun v => (v, s)
  | .fresh => (afresh P o fr).map fun x => (x.2 s.size, s.push ⟨x.1, .rw⟩)
  | .hard => ahard P call o fr s

/-- Is an operation carried out? -/
def awanted (ops : Array Oper) (o : Oper) (fr : Fr) : Option Bool :=
  match o.guard with
  | none => some true
  | some (j, want) =>
    match (ops[j]?).bind (·.dst) with
    | none => none
    | some d => match getf fr d with
      | .bool b => some (b == want)
      | v => if isSkipped v then some false else none

def seqOps (P : Program) (call : Value → List Value → St → Option (Value × St)) (ops : Array Oper) : List Oper → Fr → St → Option (Fr × St)
  | [], fr, s => some (fr, s)
  | o :: rest, fr, s =>
    match awanted ops o fr with
    | some true => match aop P call o.op fr s with
      | some (v, s') => seqOps P call ops rest (setf fr o.dst v) s'
      | none => none
    | some false => seqOps P call ops rest (setf fr o.dst skipped) s
    | none => none

/-! ### A region whose order is drawn: the text's order, and what makes every order the same -/

def stable (P : Program) (s : St) (o : Op) (fr : Fr) (v : Value) : Bool :=
  match aread P o fr s with
  | some u => same u v
  | none => false

def ordered (bef : Array Nat) (j i : Nat) : Bool := (bef.getD i 0).testBit j

def reserve (s : St) : Nat → St
  | 0 => s
  | n + 1 => reserve (s.push ⟨[], .dead⟩) n

/-- How many blocks are kept for a region's own: as far as its last operation that makes one. -/
def room : List Oper → Nat
  | [] => 0
  | o :: rest => match room rest with
    | 0 => if classOf o.op = .fresh then 1 else 0
    | n + 1 => n + 2

/-- base: the first of the blocks that are kept for this region's own; hist: the hard operations so far, each with the store ahead of it; reads: what was read so far. -/
def drawOps (P : Program) (call : Value → List Value → St → Option (Value × St)) (ops : Array Oper) (base : Nat) :
    Nat → List Oper → Fr → St → List (Nat × St) → List (Nat × Op × Fr × Value) → Option (Fr × St)
  | _, [], fr, s, _, _ => some (fr, s)
  | i, o :: rest, fr, s, hist, reads =>
    match awanted ops o fr with
    | none => none
    | some false => drawOps P call ops base (i + 1) rest (setf fr o.dst skipped) s hist reads
    | some true =>
      match classOf o.op with
      | .quiet => match aquiet P o.op fr with
        | some v => drawOps P call ops base (i + 1) rest (setf fr o.dst v) s hist reads
        | none => none
      | .load | .slice => match aread P o.op fr s with
        | some v =>
          if hist.all (fun h => ordered (Region.before ops) h.1 i || stable P h.2 o.op fr v) then
            drawOps P call ops base (i + 1) rest (setf fr o.dst v) s hist ((i, o.op, fr, v) :: reads)
          else none
        | none => none
      | .fresh => match afresh P o.op fr with
        | some (cs, mk) => drawOps P call ops base (i + 1) rest (setf fr o.dst (mk (base + i))) (s.set (base + i) ⟨cs, .rw⟩) hist reads
        | none => none
      | .hard =>
        if hist.all (fun h => ordered (Region.before ops) h.1 i) then
          match ahard P call o.op fr s with
          | some (v, s') =>
            if reads.all (fun r => ordered (Region.before ops) r.1 i || stable P s' r.2.1 r.2.2.1 r.2.2.2) then
              drawOps P call ops base (i + 1) rest (setf fr o.dst v) s' ((i, s) :: hist) reads
            else none
          | none => none
        else none

/-! ### Code -/

inductive AExit where
  | normal
  | exit (id : Nat)
  | ret

def iter (body : Fr → St → Option (AExit × Fr × St)) : Nat → Fr → St → Option (AExit × Fr × St)
  | 0, _, _ => none
  | n + 1, fr, s =>
    match body fr s with
    | some (.normal, fr', s') => iter body n fr' s'
    | r => r

def code (P : Program) (call : Value → List Value → St → Option (Value × St)) (n : Nat) : Code → Fr → St → Option (AExit × Fr × St)
  | .skip, fr, s => some (.normal, fr, s)
  | .label _, fr, s => some (.normal, fr, s)
  | .region _ ops draw, fr, s =>
    match (if draw then drawOps P call ops s.size 0 ops.toList fr (reserve s (room ops.toList)) [] [] else seqOps P call ops ops.toList fr s) with
    | some (fr', s') => some (.normal, fr', s')
    | none => none
  | .seq a b, fr, s =>
    match code P call n a fr s with
    | some (.normal, fr', s') => code P call n b fr' s'
    | r => r
  | .cond c a b, fr, s =>
    match ev fr c with
    | .bool t => if t then code P call n a fr s else code P call n b fr s
    | _ => none
  | .block id c, fr, s =>
    match code P call n c fr s with
    | some (.exit id', fr', s') => if id' = id then some (.normal, fr', s') else some (.exit id', fr', s')
    | r => r
  | .loop c, fr, s => iter (code P call n c) n fr s
  | .exit id, fr, s => some (.exit id, fr, s)
  | .ret, fr, s => some (.ret, fr, s)
  | .rangeFunc f ps assign body, fr, s =>
    match ev fr f with
    | .func (.func k) a b =>
      match call (.func (.func k) a b) [.func (.yield s.nloops) #[] #[]] (s.pushLoop { fr, params := ps, assign, body, state := .ready, pending := none }) with
      | some (_, s') =>
        match s'.loop s.nloops with
        | some r =>
          if r.state = .busy then none else
          match r.pending with
          | none => some (.normal, fr, s'.setLoop s.nloops { r with state := .exhausted })
          | some .ret => some (.ret, fr, s'.setLoop s.nloops { r with state := .exhausted })
          | some (.exit id) => some (.exit id, fr, s'.setLoop s.nloops { r with state := .exhausted })
          | _ => none
        | none => none
      | none => none
    | _ => none
  | _, _, _ => none

def aresult (P : Program) (fr : Fr) (s : St) : ResultVar → Option Value
  | .tmp t => some (getf fr t)
  | .cell a t => aload P s t (getf fr a)

def aresultList (P : Program) (fr : Fr) (s : St) : List ResultVar → Option (List Value)
  | [] => some []
  | r :: rest =>
    match aresult P fr s r, aresultList P fr s rest with
    | some v, some l => some (v :: l)
    | _, _ => none

def aresults (P : Program) (fn : Func) (fr : Fr) (s : St) : Option Value :=
  match aresultList P fr s fn.results.toList with
  | some [v] => some v
  | some l => some (.tuple l.toArray)
  | none => none

/-- Every region that draws its order may be taken in the text's order as far as temporaries go. -/
def codeOk : Code → Bool
  | .region _ ops draw => !draw || Region.lexB .any ops
  | .seq a b => codeOk a && codeOk b
  | .cond _ a b => codeOk a && codeOk b
  | .block _ c => codeOk c
  | .loop c => codeOk c
  | .rangeFunc _ _ a b => codeOk a && codeOk b
  | _ => true

def pendingOf : AExit → Option Code
  | .normal => none
  | .exit id => some (.exit id)
  | .ret => some .ret

/-- Calls whose answers are known ahead. -/
abbrev Known := FuncId → List Value → Option Value

def known (K : Known) (f : Value) (args : List Value) : Option Value :=
  match f with
  | .func (.func k) a b => if a.isEmpty && b.isEmpty then K k args else none
  | _ => none

/-- A call of a function value. -/
def inv (P : Program) (K : Known) : Nat → Value → List Value → St → Option (Value × St)
  | 0, _, _, _ => none
  | n + 1, f, args, s =>
    match known K f args with
    | some v => some (v, s)
    | none =>
    match f with
    | .func (.func k) first captured =>
      match P.funcs[k]? with
      | some fn => match fn.body with
        | some c =>
          match code P (inv P K n) n c ((first.toList ++ args ++ captured.toList) ++ List.replicate (fn.ntmps - (first.toList ++ args ++ captured.toList).length) undef) s with
          | some (.normal, fr, s') => (aresults P fn fr s').map fun v => (v, s')
          | some (.ret, fr, s') => (aresults P fn fr s').map fun v => (v, s')
          | _ => none
        | none => none
      | none => none
    | .func (.yield l) _ _ =>
      match s.loop l with
      | some r =>
        if r.state = .ready ∧ args.length = r.params.size then
          match code P (inv P K n) n r.assign ((r.params.toList.zip args).foldl (fun fr x => fr.set x.1 x.2) r.fr) s with
          | some (.normal, fr, s1) =>
            match s1.loop l with
            | some r1 =>
              if r1.state = .ready then
                match code P (inv P K n) n r.body fr (s1.setLoop l { r1 with state := .busy }) with
                | some (e, _, s2) =>
                  match s2.loop l with
                  | some r2 => some (.bool (pendingOf e).isNone, s2.setLoop l { r2 with state := if (pendingOf e).isNone then .ready else .done, pending := pendingOf e })
                  | none => none
                | none => none
              else none
            | none => none
          | _ => none
        else none
      | none => none
    | _ => none

end Go.Abs
