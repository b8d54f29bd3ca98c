/- The abstract machine: values with abstract addresses, an abstract heap, what each operation does in it, and its big-step runs. Own work; no condition. -/
import Derived.Orders
import Derived.Laws.Sem
import Derived.Tactics
import Derived.KernelRfl
namespace Go.Proofs.Ytjmklialkjncaaa.Eng

/-! ### 1. Values and the heap -/

/-- A value that names no memory. -/
def plain1 : Value → Bool
  | .bool _ | .int _ _ | .float _ _ | .complex _ _ _ | .string _ | .pointer none | .slice none _ _ | .map none | .chan none | .nilFunc | .nilIface => true
  | _ => false

/-- A value of one cell. -/
def isCell : Value → Bool
  | .agg _ | .tuple _ => false
  | _ => true

/-- An abstract object. `sz`: cells of an element (0: no slice's row). `ro`: came in. `fam`: the first of those that it was appended out of. `st`: appended into another one. `k`: how often it has been written. -/
inductive AObj where
  | dead
  | cells (sz : Nat) (ro : Bool) (fam : Nat) (st : Option Nat) (k : Nat) (c : List Value)

structure AHeap where
  n : Nat
  o : Nat → AObj

def AHeap.set (h : AHeap) (b : Nat) (x : AObj) : AHeap := { n := h.n, o := fun c => if c = b then x else h.o c }
def AHeap.new (h : AHeap) (x : AObj) : AHeap := { n := h.n + 1, o := fun c => if c = h.n then x else h.o c }

/-- What can be read of an object. -/
def AHeap.rd (h : AHeap) (b : Nat) : Option (List Value) :=
  match h.o b with
  | .cells _ _ _ none _ c => some c
  | .cells _ _ _ (some m) _ c => match h.o m with
    | .cells _ _ _ none 0 _ => some c
    | _ => none
  | .dead => none

/-! ### 2. Types -/
def isAggT (P : Program) (t : TypeId) : Option Bool :=
  match P.underlying t with
  | some (.struct _) | some (.array _ _) => some true
  | some _ => some false
  | none => none
def szOf (P : Program) (t : TypeId) : Option Nat := (P.info? t).map (·.size)
def byOf (P : Program) (t : TypeId) : Option Nat := (P.info? t).map (·.bytes)
def zeroOf (P : Program) (t : TypeId) : Option Value := ((P.info? t).bind (·.zero)).bind fun z => if z.cells.all plain1 then some z else none
def elemOf (P : Program) (t : TypeId) : Option TypeId :=
  match P.underlying t with
  | some (.slice e) => some e
  | _ => none

/-! ### 3. Computations that touch no memory -/
def purely (P : Program) {α : Type} : Sem α → Option α
  | .pure a => some a
  | .program k => purely P (k P)
  | _ => none

/-! ### 4. The state -/
structure ASt where
  m : Nat
  t : Nat → Value
  h : AHeap

def ASt.ev (s : ASt) : Operand → Value
  | .tmp t => s.t t
  | .const v => v
  | .global g => .pointer (some ⟨g, 0, none⟩)
  | .func f => .func (.func f) #[] #[]

def ASt.put (s : ASt) (dst : Option Tmp) (v : Value) (h : AHeap) : ASt :=
  match dst with
  | some d => { m := s.m, t := fun i => if i = d then v else s.t i, h := h }
  | none => { m := s.m, t := s.t, h := h }

/-- A constant that names no memory. -/
def plainC : Value → Bool
  | .agg cs => cs.all plain1
  | .tuple cs => cs.all plain1
  | v => plain1 v

def okOperand : Operand → Bool
  | .const v => plainC v
  | .global _ => false
  | _ => true

/-! ### 5. Loads, stores, appends -/
def loadA (P : Program) (h : AHeap) (t : TypeId) (b off : Nat) : Option Value :=
  match h.rd b with
  | none => none
  | some c =>
    match isAggT P t with
    | none => none
    | some true => match szOf P t with
      | none => none
      | some n => if off + n ≤ c.length then some (.agg ((c.drop off).take n).toArray) else none
    | some false => c[off]?

def splice (c : List Value) (off : Nat) (cs : List Value) : List Value := c.take off ++ cs ++ c.drop (off + cs.length)

def storeA (P : Program) (h : AHeap) (t : TypeId) (b off : Nat) (v : Value) : Option AHeap :=
  match h.o b with
  | .cells sz false f none k c =>
    if szOf P t = some v.cells.size ∧ off + v.cells.size ≤ c.length ∧ v.cells.all isCell = true then some (h.set b (.cells sz false f none (k + 1) (splice c off v.cells.toList))) else none
  | _ => none

/-- The cells of a slice's elements, or of a string's bytes. -/
def srcA (h : AHeap) (sz : Nat) : Value → Option (Nat × List Value)
  | .slice none 0 0 => some (0, [])
  | .slice (some ⟨b, off, none⟩) l _ => match h.rd b with
    | some c => if off + l * sz ≤ c.length then some (l, (c.drop off).take (l * sz)) else none
    | none => none
  | .string s => if sz = 1 then some (s.size, s.data.toList.map fun b => .int .u8 b.toNat) else none
  | _ => none

/-- How many elements of `bytes` bytes there may be. -/
def fitsA (bytes n : Nat) : Bool := decide (n * bytes ≤ 140737488355328)

def appendA (P : Program) (h : AHeap) (t : TypeId) (s x : Value) : Option (Value × AHeap) :=
  match elemOf P t with
  | none => none
  | some e => match szOf P e, byOf P e with
    | some sz, some by_ => match srcA h sz x, (zeroOf P e).map (·.cells.size) with
      | some (n, new), some zs => if zs ≠ sz then none else
        match s with
        | .slice none 0 0 =>
          if n = 0 then some (.slice none 0 0, h)
          else if fitsA by_ n = true ∧ 0 < sz ∧ 0 < by_ then some (.slice (some ⟨h.n, 0, none⟩) n n, h.new (.cells sz false h.n none 0 new)) else none
        | .slice (some ⟨b, off, none⟩) l _ =>
          match h.o b with
          | .cells sz' false f none k c =>
            if sz' = sz ∧ off + l * sz = c.length ∧ fitsA by_ (l + n) = true ∧ 0 < sz ∧ 0 < by_ then
              some (.slice (some ⟨h.n, 0, none⟩) (l + n) (l + n), (h.set b (.cells sz false f (some h.n) k c)).new (.cells sz false f none 0 (c.drop off ++ new)))
            else none
          | _ => none
        | _ => none
      | _, _ => none
    | _, _ => none

def boundA : Option Value → Nat → Option Nat
  | none, d => some d
  | some (.int _ i), _ => if 0 ≤ i then some i.toNat else none
  | some _, _ => none

/-- `x[lo:hi]` within the length. -/
def sliceA (P : Program) (h : AHeap) (t : TypeId) (x : Value) (lo hi : Option Value) : Option Value :=
  match x with
  | .string s => match P.underlying t, boundA lo 0, boundA hi s.size with
    | some .string, some l, some h => if l ≤ h ∧ h ≤ s.size then some (.string (s.extract l h)) else none
    | _, _, _ => none
  | .slice none 0 0 => match (elemOf P t).bind (szOf P), boundA lo 0, boundA hi 0 with
    | some _, some 0, some 0 => some (.slice none 0 0)
    | _, _, _ => none
  | .slice (some ⟨b, off, none⟩) n _ => match (elemOf P t).bind (szOf P), boundA lo 0, boundA hi n, h.o b with
    | some sz, some l, some h, .cells sz' _ _ _ _ _ => if l ≤ h ∧ h ≤ n ∧ sz' = sz then some (.slice (some ⟨b, off + l * sz, none⟩) (h - l) (h - l)) else none
    | _, _, _, _ => none
  | _ => none

def indexA (P : Program) (t : TypeId) (x i : Value) : Option Value :=
  match x, i with
  | .slice (some ⟨b, off, none⟩) n _, .int _ i => match (elemOf P t).bind (szOf P) with
    | some sz => if 0 ≤ i ∧ i < n then some (.pointer (some ⟨b, off + i.toNat * sz, none⟩)) else none
    | none => none
  | _, _ => none

def fieldA (P : Program) (t : TypeId) (x : Value) (f : Nat) : Option Value :=
  match x, P.underlying t with
  | .pointer (some ⟨b, off, none⟩), some (.struct fields) => match fields[f]? with
    | some g => match szOf P g.type with
      | some (_ + 1) => some (.pointer (some ⟨b, off + g.offset, none⟩))
      | _ => none
    | none => none
  | _, _ => none

def partA (P : Program) (t : TypeId) (cs : Array Value) (off : Nat) : Option Value :=
  match isAggT P t with
  | some true => (szOf P t).map fun n => .agg (cs.extract off (off + n))
  | some false => cs[off]?
  | none => none

def fieldOfA (P : Program) (t : TypeId) (x : Value) (f : Nat) : Option Value :=
  match x, P.underlying t with
  | .agg cs, some (.struct fields) => match fields[f]? with
    | some g => partA P g.type cs g.offset
    | none => none
  | _, _ => none

def zerosL (z : List Value) : Nat → List Value
  | 0 => []
  | n + 1 => z ++ zerosL z n

def makeA (P : Program) (h : AHeap) (t : TypeId) (n : Value) : Option (Value × AHeap) :=
  match n, elemOf P t with
  | .int .i64 i, some e => match szOf P e, byOf P e, zeroOf P e with
    | some sz, some by_, some z => if 0 ≤ i ∧ i < 4611686018427387904 ∧ i * by_ ≤ 140737488355328 ∧ z.cells.size = sz ∧ 0 < sz then
        some (.slice (some ⟨h.n, 0, none⟩) i.toNat i.toNat, h.new (.cells sz false h.n none 0 (zerosL z.cells.toList i.toNat))) else none
    | _, _, _ => none
  | _, _ => none

/-- A slice literal, all elements in order. -/
def litA (P : Program) (h : AHeap) (t : TypeId) (len : Nat) (parts : Array (Nat × Value)) : Option (Value × AHeap) :=
  match elemOf P t with
  | some e => match szOf P e, zeroOf P e with
    | some sz, some z =>
      if len * sz ≤ 16777216 ∧ 0 < sz ∧ z.cells.size = sz ∧ parts.toList.map (·.1) = List.range len ∧ (parts.toList.all fun p => p.2.cells.size == sz && p.2.cells.all isCell) = true then
        some (.slice (some ⟨h.n, 0, none⟩) len len, h.new (.cells sz false h.n none 0 (parts.toList.map fun p => p.2.cells.toList).flatten))
      else none
    | _, _ => none
  | none => none

def fillL (place : Nat → Option (Nat × Nat)) (cells : List Value) : List (Nat × Value) → Option (List Value)
  | [] => some cells
  | (i, v) :: rest => match place i with
    | none => none
    | some (off, size) => if v.cells.size = size ∧ off + size ≤ cells.length then fillL place (splice cells off v.cells.toList) rest else none

def placesOf (P : Program) (t : TypeId) : Option (List (Nat × Nat)) :=
  match P.underlying t with
  | some (.struct fields) => fields.toList.mapM fun f => (szOf P f.type).map (f.offset, ·)
  | some (.array n e) => (szOf P e).map fun s => (List.range n).map fun i => (i * s, s)
  | _ => none

def buildA (P : Program) (t : TypeId) (parts : Array (Nat × Value)) : Option Value :=
  match zeroOf P t, placesOf P t with
  | some z, some pl => (fillL (pl[·]?) z.cells.toList parts.toList).map fun l => .agg l.toArray
  | _, _ => none

def newA (h : AHeap) (cs : Array Value) : Value × AHeap := (.pointer (some ⟨h.n, 0, none⟩), h.new (.cells 0 false h.n none 0 cs.toList))

/-- An operation on values that name no memory, by the model's own text. -/
def scalarA (P : Program) (o : Oper) (ρ : Operand → Value) : Option Value :=
  if o.op.operands.all (fun x => plain1 (ρ x)) then
    match purely P (execOp ρ o) with
    | some (.value v) => if plain1 v then some v else none
    | _ => none
  else none

def lenA (P : Program) (t : TypeId) (v : Value) : Option Value :=
  match P.underlying t, v with
  | some (.slice _), .slice _ n _ => some (.int .i64 n)
  | some .string, .string s => some (.int .i64 s.size)
  | _, _ => none

def isRowT (P : Program) (t : TypeId) : Bool :=
  match P.underlying t with
  | some (.slice _) | some .string => true
  | _ => false

/-- What an operation other than a call of a function does: its value, and the heap behind it. -/
def aop (P : Program) (o : Oper) (s : ASt) : Option (Value × AHeap) :=
  let ρ := s.ev
  match o.op with
  | .move x | .assign x => some (ρ x, s.h)
  | .pick c a b => match ρ c with
    | .bool true => some (ρ a, s.h)
    | .bool false => some (ρ b, s.h)
    | _ => none
  | .alloc t => (zeroOf P t).map fun z => newA s.h z.cells
  | .box _ x => if (ρ x).cells.all isCell then some (newA s.h (ρ x).cells) else none
  | .build t parts => (buildA P t (parts.map fun (i, x) => (i, ρ x))).map (·, s.h)
  | .buildSlice t len parts => litA P s.h t len (parts.map fun (i, x) => (i, ρ x))
  | .load t x => match ρ x with
    | .pointer (some ⟨b, off, none⟩) => (loadA P s.h t b off).map (·, s.h)
    | _ => none
  | .store t x y => match ρ x with
    | .pointer (some ⟨b, off, none⟩) => (storeA P s.h t b off (ρ y)).map (undef, ·)
    | _ => none
  | .nilCheck x => match ρ x with
    | .pointer (some a) => some (.pointer (some a), s.h)
    | _ => none
  | .makeFunc (.func f) first captured => some (.func (.func f) (first.map ρ) (captured.map ρ), s.h)
  | .makeSlice t n c => match ρ n, ρ c with
    | .int .i64 a, .int .i64 b => if a = b then makeA P s.h t (.int .i64 a) else none
    | _, _ => none
  | .slice t x lo hi none => (sliceA P s.h t (ρ x) (lo.map ρ) (hi.map ρ)).map (·, s.h)
  | .fieldAddr t x f => (fieldA P t (ρ x) f).map (·, s.h)
  | .field t x f => (fieldOfA P t (ρ x) f).map (·, s.h)
  | .indexAddr t x i => (indexA P t (ρ x) (ρ i)).map (·, s.h)
  | .extract x i => match ρ x with
    | .tuple vs => (vs[i]?).map (·, s.h)
    | _ => none
  | .call { callee := .builtin .len, args, argTypes } => match args.toList, argTypes.toList with
    | [x], [t] => (lenA P t (ρ x)).map (·, s.h)
    | _, _ => none
  | .call { callee := .builtin .append, args, argTypes } => match args.toList, argTypes.toList with
    | [x, y], [t, u] => if isRowT P u then appendA P s.h t (ρ x) (ρ y) else none
    | _, _ => none
  | .call { callee := .value _, .. } | .call { callee := .invoke _ _, .. } => none
  | _ => (scalarA P o ρ).map (·, s.h)

/-- What a call operation calls. -/
def acallee (P : Program) (o : Oper) (s : ASt) : Option (FuncId × Array Value) :=
  match o.op with
  | .call { callee := .value g, args, .. } => match s.ev g with
    | .func (.func f) first captured => match P.funcs[f]? with
      | some fn => if fn.body.isSome = true ∧ fn.name ≠ "runtime.NumGoroutine" then some (f, first ++ args.map s.ev ++ captured) else none
      | none => none
    | _ => none
  | _ => none

/-! ### 6. Runs -/
def wantedA (ops : Array Oper) (o : Oper) (s : ASt) : Bool :=
  Region.wanted o fun j => match (ops[j]?).bind (·.dst) with
    | some d => match s.t d with
      | .bool b => some b
      | _ => none
    | none => none

/-- No object has turned; one may have been appended into another one. -/
def Quiet (h h' : AHeap) : Prop :=
  h.n ≤ h'.n ∧ ∀ b, b < h.n → h'.o b = h.o b ∨ ∃ sz f k c m, h.o b = .cells sz false f none k c ∧ h'.o b = .cells sz false f (some m) k c ∧ h.n ≤ m

/-- No object has turned. -/
def Old (h h' : AHeap) : Prop := h.n ≤ h'.n ∧ ∀ b, b < h.n → h'.o b = h.o b

def enterA (fn : Func) (args : Array Value) (h : AHeap) : ASt := { m := max fn.ntmps args.size, t := fun i => args.getD i undef, h := h }

def resF (P : Program) (s : ASt) : ResultVar → Option Value
  | .tmp t => some (s.t t)
  | .cell a t => match s.t a with
    | .pointer (some ⟨b, off, none⟩) => loadA P s.h t b off
    | _ => none

def resultsA (P : Program) (fn : Func) (s : ASt) : Option (List Value) := fn.results.toList.mapM (resF P s)

def tupleA : List Value → Value
  | [v] => v
  | vs => .tuple vs.toArray

inductive J where
  | code (c : Code) (s : ASt) (e : Exit) (s' : ASt)
  | ops (ops : Array Oper) (mq lz : Nat → Bool) (Z : List Nat) (todo : List Nat) (s s' : ASt)
  | call (f : FuncId) (args : Array Value) (h : AHeap) (v : Value) (h' : AHeap)

end Go.Proofs.Ytjmklialkjncaaa.Eng
