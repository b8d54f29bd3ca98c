/- The abstract machine: values with abstract addresses, an abstract heap, what each operation does in it, and its big-step runs. | The runs of the abstract machine, and how its states stand to the model's. | Each operation of the abstract machine is what the model's operation does. | Writing cells, and new objects: how the abstract heap follows. | New objects and appends: how the abstract heap follows. | The operations, one by one: the abstract machine's step is the model's. | Slices, literals, make and append: the abstract machine's step is the model's. | Literals and append: the abstract machine's step is the model's. | Append: the abstract machine's step is the model's. | Append, as a whole. | Every operation of the abstract machine is what the model's operation does. | Maps that are turned: the abstract machine's step is the model's. | A run of the abstract machine is a run of the model. | Regions in the text's order, code and calls: a run of the abstract machine is a run of the model. Own work; no condition. -/
import Derived.Orders
import Derived.Laws.Sem
import Derived.Tactics
import Derived.KernelRfl
import Derived.Laws.IdiomStrings
import Derived.Laws.Append
import Derived.IntWalk
import Derived.LoopNIn
import Derived.Scope
import Derived.OrdersIn
import Derived.RangeFuncRecord
import Derived.WalkKit
import Derived.ProofKit
import Derived.OpenShut
import Derived.ShutString
import Derived.ChangeOld
import Derived.Below
import Derived.SizedLaws
import Derived.ChangeSlices
import Derived.Carry
import Derived.Shelf.SlIterI.Sorted
import Derived.Shelf.SortM.Plain
import Derived.Shelf.SortM.SortNone
import Derived.Test.YthekokdpplobhaaGreatChecked
import Derived.Laws.Strings
import Derived.Maps.RangeRun
import Derived.Test.YthekokdpplobhaaGreatRows
namespace Go.Proofs.YthekokdpplobhaaGreat.Eng
def aX : Value → Bool
 | .bool _ | .int _ _ | .float _ _ | .complex _ _ _ | .string _ | .pointer none | .slice none _ _ | .map none | .chan none | .nilFunc | .nilIface => true
 | _ => false
def cI : Value → Bool
 | .agg _ | .tuple _ => false
 | _ => true
inductive ep where
 | dead
 | cells (sz : Nat) (ro : Bool) (jw : Nat) (st : Option Nat) (k : Nat) (c : List Value)
structure ai where
 n : Nat
 o : Nat → ep
def ai.set (h : ai) (b : Nat) (x : ep) : ai := { n := h.n, o := fun c => if c = b then x else h.o c }
def ai.new (h : ai) (x : ep) : ai := { n := h.n + 1, o := fun c => if c = h.n then x else h.o c }
def ai.rd (h : ai) (b : Nat) : Option (List Value) :=
 match h.o b with
 | .cells _ _ _ none _ c => some c
 | .cells _ _ _ (some m) _ c => match h.o m with
   | .cells _ _ _ none 0 _ => some c
   | _ => none
 | .dead => none
def de (P : Program) (t : TypeId) : Option Bool :=
 match P.underlying t with
 | some (.struct _) | some (.array _ _) => some true
 | some _ => some false
 | none => none
def cR (P : Program) (t : TypeId) : Option Nat := (P.info? t).map (·.size)
def jR (P : Program) (t : TypeId) : Option Nat := (P.info? t).map (·.bytes)
def zeroOf (P : Program) (t : TypeId) : Option Value := ((P.info? t).bind (·.zero)).bind fun z => if z.cells.all aX then some z else none
def elemOf (P : Program) (t : TypeId) : Option TypeId :=
 match P.underlying t with
 | some (.slice e) => some e
 | _ => none
def bI (P : Program) {α : Type} : Sem α → Option α
 | .pure a => some a
 | .program k => bI P (k P)
 | _ => none
structure bN where
 m : Nat
 t : Nat → Value
 h : ai
def bN.ev (s : bN) : Operand → Value
 | .tmp t => s.t t
 | .const v => v
 | .global g => .pointer (some ⟨g, 0, none⟩)
 | .func f => .func (.func f) #[] #[]
def bN.put (s : bN) (dst : Option Tmp) (v : Value) (h : ai) : bN :=
 match dst with
 | some d => { m := s.m, t := fun i => if i = d then v else s.t i, h := h }
 | none => { m := s.m, t := s.t, h := h }
def fY : Value → Bool
 | .agg cs => cs.all aX
 | .tuple cs => cs.all aX
 | v => aX v
def dZ : Operand → Bool
 | .const v => fY v
 | .global _ => false
 | _ => true
def gN (P : Program) (h : ai) (t : TypeId) (b off : Nat) : Option Value :=
 match h.rd b with
 | none => none
 | some c =>
  match de P t with
  | none => none
  | some true => match cR P t with
    | none => none
    | some n => if off + n ≤ c.length then some (.agg ((c.drop off).take n).toArray) else none
  | some false => c[off]?
def dj (c : List Value) (off : Nat) (cs : List Value) : List Value := c.take off ++ cs ++ c.drop (off + cs.length)
def gg (P : Program) (h : ai) (t : TypeId) (b off : Nat) (v : Value) : Option ai :=
 match h.o b with
 | .cells sz false f none k c =>
  if cR P t = some v.cells.size ∧ off + v.cells.size ≤ c.length ∧ v.cells.all cI = true then some (h.set b (.cells sz false f none (k + 1) (dj c off v.cells.toList))) else none
 | _ => none
def iX (h : ai) (sz : Nat) : Value → Option (Nat × List Value)
 | .slice none 0 0 => some (0, [])
 | .slice (some ⟨b, off, none⟩) l _ => match h.rd b with
   | some c => if off + l * sz ≤ c.length then some (l, (c.drop off).take (l * sz)) else none
   | none => none
 | .string s => if sz = 1 then some (s.size, s.data.toList.map fun b => .int .u8 b.toNat) else none
 | _ => none
def jL (bytes n : Nat) : Bool := decide (n * bytes ≤ 140737488355328)
def eY (P : Program) (h : ai) (t : TypeId) (s x : Value) : Option (Value × ai) :=
 match elemOf P t with
 | none => none
 | some e => match cR P e, jR P e with
   | some sz, some by_ => match iX h sz x, (zeroOf P e).map (·.cells.size) with
     | some (n, new), some zs => if zs ≠ sz then none else
       match s with
       | .slice none 0 0 =>
        if n = 0 then some (.slice none 0 0, h)
        else if jL by_ n = true ∧ 0 < sz ∧ 0 < by_ then some (.slice (some ⟨h.n, 0, none⟩) n n, h.new (.cells sz false h.n none 0 new)) else none
       | .slice (some ⟨b, off, none⟩) l _ =>
        match h.o b with
        | .cells sz' false f none k c =>
         if sz' = sz ∧ off + l * sz = c.length ∧ jL by_ (l + n) = true ∧ 0 < sz ∧ 0 < by_ then
          some (.slice (some ⟨h.n, 0, none⟩) (l + n) (l + n), (h.set b (.cells sz false f (some h.n) k c)).new (.cells sz false f none 0 (c.drop off ++ new)))
         else none
        | _ => none
       | _ => none
     | _, _ => none
   | _, _ => none
def dJ : Option Value → Nat → Option Nat
 | none, d => some d
 | some (.int _ i), _ => if 0 ≤ i then some i.toNat else none
 | some _, _ => none
def jx (P : Program) (h : ai) (t : TypeId) (x : Value) (lo hi : Option Value) : Option Value :=
 match x with
 | .string s => match P.underlying t, dJ lo 0, dJ hi s.size with
   | some .string, some l, some h => if l ≤ h ∧ h ≤ s.size then some (.string (s.extract l h)) else none
   | _, _, _ => none
 | .slice none 0 0 => match (elemOf P t).bind (cR P), dJ lo 0, dJ hi 0 with
   | some _, some 0, some 0 => some (.slice none 0 0)
   | _, _, _ => none
 | .slice (some ⟨b, off, none⟩) n _ => match (elemOf P t).bind (cR P), dJ lo 0, dJ hi n, h.o b with
   | some sz, some l, some h, .cells sz' _ _ _ _ _ => if l ≤ h ∧ h ≤ n ∧ sz' = sz then some (.slice (some ⟨b, off + l * sz, none⟩) (h - l) (h - l)) else none
   | _, _, _, _ => none
 | _ => none
def oj (P : Program) (t : TypeId) (x i : Value) : Option Value :=
 match x, i with
 | .slice (some ⟨b, off, none⟩) n _, .int _ i => match (elemOf P t).bind (cR P) with
   | some sz => if 0 ≤ i ∧ i < n then some (.pointer (some ⟨b, off + i.toNat * sz, none⟩)) else none
   | none => none
 | _, _ => none
def ny (P : Program) (t : TypeId) (x : Value) (f : Nat) : Option Value :=
 match x, P.underlying t with
 | .pointer (some ⟨b, off, none⟩), some (.struct fields) => match fields[f]? with
   | some g => match cR P g.type with
     | some (_ + 1) => some (.pointer (some ⟨b, off + g.offset, none⟩))
     | _ => none
   | none => none
 | _, _ => none
def oX (P : Program) (t : TypeId) (cs : Array Value) (off : Nat) : Option Value :=
 match de P t with
 | some true => (cR P t).map fun n => .agg (cs.extract off (off + n))
 | some false => cs[off]?
 | none => none
def lY (P : Program) (t : TypeId) (x : Value) (f : Nat) : Option Value :=
 match x, P.underlying t with
 | .agg cs, some (.struct fields) => match fields[f]? with
   | some g => oX P g.type cs g.offset
   | none => none
 | _, _ => none
def gJ (z : List Value) : Nat → List Value
 | 0 => []
 | n + 1 => z ++ gJ z n
def lW (P : Program) (h : ai) (t : TypeId) (n : Value) : Option (Value × ai) :=
 match n, elemOf P t with
 | .int .i64 i, some e => match cR P e, jR P e, zeroOf P e with
   | some sz, some by_, some z => if 0 ≤ i ∧ i < 4611686018427387904 ∧ i * by_ ≤ 140737488355328 ∧ z.cells.size = sz ∧ 0 < sz then
       some (.slice (some ⟨h.n, 0, none⟩) i.toNat i.toNat, h.new (.cells sz false h.n none 0 (gJ z.cells.toList i.toNat))) else none
   | _, _, _ => none
 | _, _ => none
def pS (P : Program) (h : ai) (t : TypeId) (len : Nat) (parts : Array (Nat × Value)) : Option (Value × ai) :=
 match elemOf P t with
 | some e => match cR P e, zeroOf P e with
   | some sz, some z =>
    if len * sz ≤ 16777216 ∧ 0 < sz ∧ z.cells.size = sz ∧ parts.toList.map (·.1) = List.range len ∧ (parts.toList.all fun p => p.2.cells.size == sz && p.2.cells.all cI) = true then
     some (.slice (some ⟨h.n, 0, none⟩) len len, h.new (.cells sz false h.n none 0 (parts.toList.map fun p => p.2.cells.toList).flatten))
    else none
   | _, _ => none
 | none => none
def nE (place : Nat → Option (Nat × Nat)) (cells : List Value) : List (Nat × Value) → Option (List Value)
 | [] => some cells
 | (i, v) :: rest => match place i with
   | none => none
   | some (off, size) => if v.cells.size = size ∧ off + size ≤ cells.length then nE place (dj cells off v.cells.toList) rest else none
def placesOf (P : Program) (t : TypeId) : Option (List (Nat × Nat)) :=
 match P.underlying t with
 | some (.struct fields) => fields.toList.mapM fun f => (cR P f.type).map (f.offset, ·)
 | some (.array n e) => (cR P e).map fun s => (List.range n).map fun i => (i * s, s)
 | _ => none
def pG (P : Program) (t : TypeId) (parts : Array (Nat × Value)) : Option Value :=
 match zeroOf P t, placesOf P t with
 | some z, some pl => (nE (pl[·]?) z.cells.toList parts.toList).map fun l => .agg l.toArray
 | _, _ => none
def oS (h : ai) (cs : Array Value) : Value × ai := (.pointer (some ⟨h.n, 0, none⟩), h.new (.cells 0 false h.n none 0 cs.toList))
def fV (P : Program) (t : TypeId) (a b : Value) : Bool := match P.underlying t, a, b with
 | some (.slice _), .slice (some _) _ _, .slice none _ _ => true
 | some (.slice _), .slice none _ _, .slice (some _) _ _ => true
 | some (.pointer _), .pointer (some _), .pointer none => true
 | some (.pointer _), .pointer none, .pointer (some _) => true
 | _, _, _ => false
def oh (P : Program) (o : Oper) (ρ : Operand → Value) : Option Value := match o.op with
 | .binOp .eql t x y _ => if fV P t (ρ x) (ρ y) = true then some (.bool false) else none
 | .binOp .neq t x y _ => if fV P t (ρ x) (ρ y) = true then some (.bool true) else none
 | _ => none
def eC (P : Program) (o : Oper) (ρ : Operand → Value) : Option Value :=
 if o.op.operands.all (fun x => aX (ρ x)) then
  match bI P (execOp ρ o) with
  | some (.value v) => if aX v then some v else none
  | _ => none
 else oh P o ρ
def xn (P : Program) (t : TypeId) (v : Value) : Option Value :=
 match P.underlying t, v with
 | some (.slice _), .slice _ n _ => some (.int .i64 n)
 | some .string, .string s => some (.int .i64 s.size)
 | _, _ => none
def fq (P : Program) (t : TypeId) : Bool :=
 match P.underlying t with
 | some (.slice _) | some .string => true
 | _ => false
def byteOf : Value → Option UInt8
 | .int .u8 n => some (UInt8.ofNat n.toNat)
 | _ => none
def strOf : List Value → ByteArray → Option ByteArray
 | [], s => some s
 | a :: l, s => match byteOf a with
   | some b => strOf l (s.push b)
   | none => none
def ry (h : ai) (x : Value) : Option Value := match x with
 | .slice _ _ _ => match iX h 1 x with
   | some (_, cs) => (strOf cs .empty).map .string
   | none => none
 | _ => none
def iw (P : Program) (t u : TypeId) : Bool := match P.underlying t, P.underlying u with
 | some (.slice e), some .string => match P.underlying e with
   | some (.int .u8) => true
   | _ => false
 | _, _ => false
def jg (P : Program) (t u : TypeId) : Bool := match P.underlying t, P.underlying u with
 | some .string, some (.slice e) => match P.underlying e with
   | some (.int .u8) => true
   | _ => false
 | _, _ => false
def rI (h : ai) (x : Value) : Option (Value × ai) := match x with
 | .string s => some (.slice (some ⟨h.n, 0, none⟩) s.size s.size, h.new (.cells 1 false h.n none 0 (s.data.toList.map fun b => .int .u8 b.toNat)))
 | _ => none
def iG (j : IntKind) (k : Int) : List Value → Option (Option Value)
 | [] => some none
 | .int j' n :: _ :: v :: r => if j = j' then if k = n then some (some v) else iG j k r else none
 | _ => none
def mD (j : IntKind) (k : Int) (u : Value) (ck : Int) : List Value → Option (Int × List Value)
 | [] => some (ck + 1, [.int j k, .int .i64 ck, u])
 | .int j' n :: m :: v :: r => if j = j' then if k = n then some (ck, .int j k :: m :: u :: r) else (mD j k u ck r).map fun q => (q.1, .int j' n :: m :: v :: q.2) else none
 | _ => none
def mC (j : IntKind) (k : Int) : List Value → Option (List Value)
 | [] => some []
 | .int j' n :: m :: v :: r => if j = j' then if k = n then some r else (mC j k r).map (.int j' n :: m :: v :: ·) else none
 | _ => none
def pZ (P : Program) (t : TypeId) : Option TypeId := match P.underlying t with
 | some (.map k e) => match P.underlying k with
   | some (.int _) => some e
   | _ => none
 | _ => none
def wg (ok : Bool) (v : Value) (b : Bool) : Value := if ok then .tuple #[v, .bool b] else v
def jf (P : Program) (h : ai) (t : TypeId) (x i : Value) (ok : Bool) : Option Value :=
 match pZ P t with
 | some e => match zeroOf P e, i, x with
   | some z, .int _ _, .map none => some (wg ok z false)
   | some z, .int j k, .map (some b) => match h.rd b with
     | some (.int .i64 _ :: c) => match iG j k c with
       | some (some v) => some (wg ok v true)
       | some none => some (wg ok z false)
       | none => none
     | _ => none
   | _, _, _ => none
 | none => none
def pU (P : Program) (h : ai) (t : TypeId) (x i v : Value) : Option ai :=
 match pZ P t, i, x with
 | some _, .int j k, .map (some b) => match h.o b with
   | .cells sz false f none n (.int .i64 ck :: c) => (mD j k v ck c).map fun q => h.set b (.cells sz false f none (n + 1) (.int .i64 q.1 :: q.2))
   | _ => none
 | _, _, _ => none
def pY (P : Program) (h : ai) (t : TypeId) (x i : Value) : Option ai :=
 match pZ P t, i, x with
 | some _, .int j k, .map (some b) => match h.o b with
   | .cells sz false f none n (.int .i64 ck :: c) => (mC j k c).map fun c' => h.set b (.cells sz false f none (n + 1) (.int .i64 ck :: c'))
   | _ => none
 | _, _, _ => none
def pK (P : Program) (o : Oper) (s : bN) : Option (Value × ai) :=
 match o.op with
 | .mapUpdate t m k x => (pU P s.h t (s.ev m) (s.ev k) (s.ev x)).map (undef, ·)
 | .call { callee := .builtin .delete, args, argTypes } => match args.toList, argTypes.toList with
   | [m, k], [t, _] => (pY P s.h t (s.ev m) (s.ev k)).map (.tuple #[], ·)
   | _, _ => none
 | _ => none
def eg (P : Program) (o : Oper) (s : bN) : Option (Value × ai) :=
 let ρ := s.ev
 match o.op with
 | .move x | .assign x => some (ρ x, s.h)
 | .pick c a b => match ρ c with
   | .bool true => some (ρ a, s.h)
   | .bool false => some (ρ b, s.h)
   | _ => none
 | .alloc t => (zeroOf P t).map fun z => oS s.h z.cells
 | .box _ x => if (ρ x).cells.all cI then some (oS s.h (ρ x).cells) else none
 | .build t parts => (pG P t (parts.map fun (i, x) => (i, ρ x))).map (·, s.h)
 | .buildSlice t len parts => pS P s.h t len (parts.map fun (i, x) => (i, ρ x))
 | .load t x => match ρ x with
   | .pointer (some ⟨b, off, none⟩) => (gN P s.h t b off).map (·, s.h)
   | _ => none
 | .store t x y => match ρ x with
   | .pointer (some ⟨b, off, none⟩) => (gg P s.h t b off (ρ y)).map (undef, ·)
   | _ => none
 | .makeMap _ none => some (.map (some s.h.n), s.h.new (.cells 2 false s.h.n none 0 [.int .i64 0]))
 | .lookup t x i ok => (jf P s.h t (ρ x) (ρ i) ok).map (·, s.h)
 | .nilCheck x => match ρ x with
   | .pointer (some a) => some (.pointer (some a), s.h)
   | _ => none
 | .makeFunc (.func f) first captured => some (.func (.func f) (first.map ρ) (captured.map ρ), s.h)
 | .makeSlice t n c => match ρ n, ρ c with
   | .int .i64 a, .int .i64 b => if a = b then lW P s.h t (.int .i64 a) else none
   | _, _ => none
 | .slice t x lo hi none => (jx P s.h t (ρ x) (lo.map ρ) (hi.map ρ)).map (·, s.h)
 | .fieldAddr t x f => (ny P t (ρ x) f).map (·, s.h)
 | .field t x f => (lY P t (ρ x) f).map (·, s.h)
 | .indexAddr t x i => (oj P t (ρ x) (ρ i)).map (·, s.h)
 | .extract x i => match ρ x with
   | .tuple vs => (vs[i]?).map (·, s.h)
   | _ => none
 | .convert t u x => if iw P t u then (ry s.h (ρ x)).map (·, s.h) else if jg P t u then rI s.h (ρ x) else (eC P o ρ).map (·, s.h)
 | .call { callee := .builtin .len, args, argTypes } => match args.toList, argTypes.toList with
   | [x], [t] => (xn P t (ρ x)).map (·, s.h)
   | _, _ => none
 | .call { callee := .builtin .append, args, argTypes } => match args.toList, argTypes.toList with
   | [x, y], [t, u] => if fq P u then eY P s.h t (ρ x) (ρ y) else none
   | _, _ => none
 | .call { callee := .value _, .. } | .call { callee := .invoke _ _, .. } => none
 | _ => (eC P o ρ).map (·, s.h)
def gV (P : Program) (o : Oper) (s : bN) : Option (FuncId × Array Value) :=
 match o.op with
 | .call { callee := .value g, args, .. } => match s.ev g with
   | .func (.func f) first captured => match P.funcs[f]? with
     | some fn => if fn.body.isSome = true ∧ fn.name ≠ "runtime.NumGoroutine" then some (f, first ++ args.map s.ev ++ captured) else none
     | none => none
   | _ => none
 | _ => none
def cv (ops : Array Oper) (o : Oper) (s : bN) : Bool :=
 Region.wanted o fun j => match (ops[j]?).bind (·.dst) with
  | some d => match s.t d with
    | .bool b => some b
    | _ => none
  | none => none
def Quiet (h h' : ai) : Prop :=
 h.n ≤ h'.n ∧ ∀ b, b < h.n → h'.o b = h.o b ∨ ∃ sz f k c m, h.o b = .cells sz false f none k c ∧ h'.o b = .cells sz false f (some m) k c ∧ h.n ≤ m
def Old (h h' : ai) : Prop := h.n ≤ h'.n ∧ ∀ b, b < h.n → h'.o b = h.o b
def gX (h h' h2 : ai) : Prop :=
 ∃ b sz f k c cn, h.o b = .cells sz false f none k c ∧ h'.o b = .cells sz false f (some h.n) k c ∧ h'.o h.n = .cells sz false f none 0 cn ∧ h2.n = h'.n ∧
  ∀ x, h2.o x = if x = b then .cells sz true f none (k + 1) c else if x = h.n then .cells sz true f none 0 cn else h'.o x
theorem gX.n {h h' h2 : ai} (hs : gX h h' h2) : h2.n = h'.n := by
 obtain ⟨b, sz, f, k, c, cn, _, _, _, h, _⟩ := hs
 exact h
def cz (fn : Func) (args : Array Value) (h : ai) : bN := { m := max fn.ntmps args.size, t := fun i => args.getD i undef, h := h }
def oQ (P : Program) (s : bN) : ResultVar → Option Value
 | .tmp t => some (s.t t)
 | .cell a t => match s.t a with
   | .pointer (some ⟨b, off, none⟩) => gN P s.h t b off
   | _ => none
def cr (P : Program) (fn : Func) (s : bN) : Option (List Value) := fn.results.toList.mapM (oQ P s)
def eB : List Value → Value
 | [v] => v
 | vs => .tuple vs.toArray
inductive J where
 | code (c : Code) (s : bN) (e : Exit) (s' : bN)
 | ops (ops : Array Oper) (mq lz : Nat → Bool) (Z : List (Nat × Bool)) (todo : List Nat) (s s' : bN)
 | call (f : FuncId) (args : Array Value) (h : ai) (v : Value) (h' : ai)
 | jK (c : Code) (s s' : bN) (g : FuncId) (lb : Array Value)
def fG (ops : Array Oper) (m : Nat) : Bool :=
 ops.toList.all fun o => (match o.dst with | some d => decide (d < m) | none => true) && o.op.operands.toList.all dZ
structure qM where
 m : Nat
 t : Nat → Value
 ps : Array Tmp
 assign : Code
 body : Code
structure dV where
 c : Nat → Option qM
 r : Bool
 nf : Bool
def dV.none : dV := ⟨fun _ => Option.none, false, false⟩
def dV.late : dV := ⟨fun _ => Option.none, false, true⟩
def dV.add (ρ : dV) (b : Nat) (x : qM) : dV := ⟨fun i => if i = b then some x else ρ.c i, false, false⟩
def dV.del (ρ : dV) (b : Nat) : dV := ⟨fun i => if i = b then Option.none else ρ.c i, true, false⟩
def dV.out (ρ : dV) : dV := ⟨ρ.c, false, false⟩
def dV.can (ρ : dV) : Prop := ρ.r = false ∧ ρ.nf = false
def Yd (b : Nat) : Value := .func (.yield b) #[] #[]
def ai.fm (h : ai) : ai := { n := h.n + 1, o := h.o }
def gH : List (Tmp × Value) → (Nat → Value) → Nat → Value
 | [], t => t
 | (d, v) :: l, t => gH l fun i => if i = d then v else t i
def qJ (P : Program) (f : FuncId) : Bool := match P.funcs[f]? with
 | some fn => fn.body.isSome && fn.name != "runtime.NumGoroutine"
 | none => false
def jq (o : Oper) (s : bN) : Option (Nat × Array Value) :=
 match o.op with
 | .call { callee := .value g, args, .. } => match s.ev g with
   | .func (.yield b) _ _ => some (b, args.map s.ev)
   | _ => none
 | _ => none
structure Ext where
 block : Nat
 off : Nat
 cap : Nat
 sz : Nat
 mp : Bool := false
abbrev Lay := Nat → Option Ext
inductive aP (ι : Lay) : Value → Value → Prop
 | atom {v} : aX v = true → aP ι v v
 | ptr {b o e} : ι b = some e → e.mp = false → aP ι (.pointer (some ⟨b, o, none⟩)) (.pointer (some ⟨e.block, e.off + o, none⟩))
 | map {b e} : ι b = some e → e.mp = true → aP ι (.map (some b)) (.map (some e.block))
 | slice {b o l c c' e} : ι b = some e → e.mp = false → l ≤ c' → o + c' * e.sz ≤ e.cap → aP ι (.slice (some ⟨b, o, none⟩) l c) (.slice (some ⟨e.block, e.off + o, none⟩) l c')
 | eu {b o c A e} : ι b = some e → e.mp = false → aP ι (.slice (some ⟨b, o, none⟩) 0 c) (.slice (some A) 0 0)
 | agg {xs ys : Array Value} : xs.size = ys.size → (∀ (i : Nat) v v', xs[i]? = some v → ys[i]? = some v' → aP ι v v') → aP ι (.agg xs) (.agg ys)
 | tuple {xs ys : Array Value} : xs.size = ys.size → (∀ (i : Nat) v v', xs[i]? = some v → ys[i]? = some v' → aP ι v v') → aP ι (.tuple xs) (.tuple ys)
 | func {f} {xs ys zs ws : Array Value} : xs.size = ys.size → (∀ (i : Nat) v v', xs[i]? = some v → ys[i]? = some v' → aP ι v v') →
     zs.size = ws.size → (∀ (i : Nat) v v', zs[i]? = some v → ws[i]? = some v' → aP ι v v') → aP ι (.func (.func f) xs zs) (.func (.func f) ys ws)
 | iface {t v v'} : aP ι v v' → aP ι (.iface t v) (.iface t v')
 | wI {b e} : ι b = some e → aP ι (.func (.yield b) #[] #[]) (.func (.yield e.block) #[] #[])
def cU (x y : ep) (i : Nat) : Prop :=
 y = x ∨ ∃ sz ro f k c m, x = .cells sz ro f none k c ∧ y = .cells sz ro f (some m) k c ∧ i < c.length
def lu : ep → ep → Prop
 | .dead, y => y = .dead
 | .cells sz ro f st k c, y => ∃ ro' st' k' c', y = .cells sz ro' f st' k' c' ∧ (ro = true → ro' = true) ∧ k ≤ k' ∧ (k' = k → c' = c) ∧ (∀ m, st = some m → st' = st ∧ k' = k ∧ c' = c)
theorem lu.refl (x : ep) : lu x x := by
 cases x with
 | dead => rfl
 | cells sz ro f st k c => exact ⟨ro, st, k, c, rfl, id, Nat.le_refl _, fun _ => rfl, fun _ _ => ⟨rfl, rfl, rfl⟩⟩
theorem lu.trans {x y z : ep} (h : lu x y) (h' : lu y z) : lu x z := by
 cases x with
 | dead => obtain rfl : y = .dead := h; exact h'
 | cells sz ro f st k c =>
  obtain ⟨ro1, st1, k1, c1, rfl, hr1, hk, hc, hm⟩ := h
  obtain ⟨ro2, st2, k2, c2, rfl, hr2, hk2, hc2, hm2⟩ := h'
  refine ⟨ro2, st2, k2, c2, rfl, fun q => hr2 (hr1 q), Nat.le_trans hk hk2, fun e => ?_, fun m e => ?_⟩
  · have e1 : k1 = k := by omega
    have e2 : k2 = k1 := by omega
    rw [hc2 e2, hc e1]
  · obtain ⟨e1, e2, e3⟩ := hm m e
    subst e
    obtain ⟨e4, e5, e6⟩ := hm2 m e1
    exact ⟨by rw [e4, e1], by omega, by rw [e6, e3]⟩
inductive cL (ι : Lay) : List Value → List MapEntry → Prop
 | nil : cL ι [] []
 | cons {k v : Value} {c : List Value} {e : MapEntry} {es : List MapEntry} : e.key = k → aX k = true → aP ι v e.val → cL ι c es → cL ι (k :: .int .i64 e.born :: v :: c) (e :: es)
def fz (ι : Lay) (c0 : List Value) (es : Array MapEntry) (clock : Nat) : Prop :=
 ∃ c, c0 = .int .i64 clock :: c ∧ cL ι c es.toList ∧ (∀ en ∈ es.toList, en.born < clock) ∧ es.toList.Pairwise fun x y => x.born < y.born
def lU (ι : Lay) (w : World) (B : Nat) (c : List Value) : Prop := ∃ es clock, w.heap[B]? = some (.map es clock) ∧ fz ι c es clock
structure bn (base : Nat) (ι : Lay) (h : ai) (w : World) : Prop where
 lt : ∀ b e, ι b = some e → b < h.n
 gG : ∀ b e, ι b = some e → e.block < w.heap.size
 na : ∀ b e sz ro f st k c, ι b = some e → h.o b = .cells sz ro f st k c → e.sz = sz ∧ (e.mp = false → c.length ≤ e.cap) ∧ (ro = false → base ≤ e.block) ∧ (e.mp = false → ∀ x ∈ c, cI x = true)
 val : ∀ b e c i v, ι b = some e → e.mp = false → h.rd b = some c → c[i]? = some v → ∃ v', w.cell? ⟨e.block, e.off + i, none⟩ = some v' ∧ aP ι v v'
 room : ∀ b e sz f st k c i, ι b = some e → h.o b = .cells sz false f st k c → i < e.cap → (∃ v, w.cell? ⟨e.block, e.off + i, none⟩ = some v) ∧ w.frozen? ⟨e.block, e.off + i, none⟩ = false
 apart : ∀ b1 e1 b2 e2 bP ro1 f1 st1 k1 c1 fk f2 st2 k2 c2, ι b1 = some e1 → ι b2 = some e2 → h.o b1 = .cells bP ro1 f1 st1 k1 c1 → h.o b2 = .cells fk false f2 st2 k2 c2 →
  f1 ≠ f2 → e1.block = e2.block → e1.off + e1.cap ≤ e2.off ∨ e2.off + e2.cap ≤ e1.off
 link : ∀ b1 e1 b2 e2 f bP ro1 st1 k1 c1 fk ro2 st2 k2 c2, ι b1 = some e1 → ι b2 = some e2 → h.o b1 = .cells bP ro1 f st1 k1 c1 → h.o b2 = .cells fk ro2 f st2 k2 c2 →
  b1 < b2 → e1.block = e2.block → e1.off + c1.length ≤ e2.off + c2.length
 wf : ∀ b sz ro f m k c, h.o b = .cells sz ro f (some m) k c → m < h.n ∧ ∃ sz' ro' st' k' c', h.o m = .cells sz' ro' f st' k' c'
 jw : ∀ b sz ro f st k c, h.o b = .cells sz ro f st k c → f ≤ b
 uniq : ∀ y z f bP ro1 st1 k1 c1 fk ro2 k2 c2, h.o y = .cells bP ro1 f st1 k1 c1 → h.o z = .cells fk ro2 f none k2 c2 → (ro2 = false ∨ (ro1 = false ∧ st1 = none)) → y ≤ z
 out : ∀ b, h.n ≤ b → h.o b = .dead
 maps : ∀ b e sz ro f st k c, ι b = some e → e.mp = true → h.o b = .cells sz ro f st k c → (∀ b' e', ι b' = some e' → e'.block = e.block → b' = b) ∧ lU ι w e.block c
theorem lU.world {ι : Lay} {w w' : World} {B : Nat} {c : List Value} (h : lU ι w B c) (hB : w'.heap[B]? = w.heap[B]?) : lU ι w' B c := by
 obtain ⟨es, clock, h1, h2⟩ := h
 exact ⟨es, clock, by rw [hB]; exact h1, h2⟩
def Kept (e : Ext) (x y : ep) : Prop := y = x ∨ (e.mp = true ∧ ∃ sz ro f st k c sz' ro' f' st' c', x = .cells sz ro f st k c ∧ y = .cells sz' ro' f' st' k c')
structure eL (U : ep → ep → Nat → Prop) (ι : Lay) (h h' : ai) (w w' : World) : Prop where
 os : w'.os = w.os
 tape : w'.tape = w.tape
 output : w'.output = w.output
 size : w.heap.size ≤ w'.heap.size
 block : ∀ B, B < w.heap.size → (∀ b e, ι b = some e → e.block = B → Kept e (h.o b) (h'.o b)) → w'.heap[B]? = w.heap[B]?
 cell : ∀ B off v, w.cell? ⟨B, off, none⟩ = some v → (∀ b e, ι b = some e → e.block = B → e.off ≤ off → off < e.off + e.cap → U (h.o b) (h'.o b) (off - e.off)) → w'.cell? ⟨B, off, none⟩ = some v
 there : ∀ B off v, w.cell? ⟨B, off, none⟩ = some v → (∃ v', w'.cell? ⟨B, off, none⟩ = some v') ∧ w'.frozen? ⟨B, off, none⟩ = w.frozen? ⟨B, off, none⟩
abbrev dE := eL cU
abbrev bg := eL fun x y _ => y = x
structure bw (base : Nat) (ι ι' : Lay) (h h' : ai) (w : World) : Prop where
 old : ∀ b, b < h.n → ι' b = ι b
 new : ∀ b e, h.n ≤ b → ι' b = some e → w.heap.size ≤ e.block ∨ ∃ b0 e0 sz ro f st k c, ι b0 = some e0 ∧ h'.o b0 ≠ h.o b0 ∧ e.block = e0.block ∧ e0.off ≤ e.off ∧ e.off + e.cap ≤ e0.off + e0.cap ∧
  h.o b0 = .cells sz ro f st k c ∧ ∃ sz' ro' st' k' c', h'.o b = .cells sz' ro' f st' k' c'
 mH : ∀ b sz ro f st k c, h.n ≤ b → h'.o b = .cells sz ro f st k c → h.n ≤ f ∨ ∃ b0 e0 sz0 ro0 st0 k0 c0, ι b0 = some e0 ∧ h.o b0 = .cells sz0 ro0 f st0 k0 c0 ∧ h'.o b0 ≠ h.o b0
 full : ∀ b, h.n ≤ b → b < h'.n → ∃ e, ι' b = some e
 mw : ∀ b, b < h.n → lu (h.o b) (h'.o b)
 grow : h.n ≤ h'.n
theorem aP.mono {ι ι' : Lay} (h : ∀ b e, ι b = some e → ι' b = some e) {v v' : Value} (r : aP ι v v') : aP ι' v v' := by
 induction r with
 | atom h1 => exact .atom h1
 | ptr h1 h2 => exact .ptr (h _ _ h1) h2
 | map h1 h2 => exact .map (h _ _ h1) h2
 | slice h1 h0 h2 h3 => exact .slice (h _ _ h1) h0 h2 h3
 | eu h1 h2 => exact .eu (h _ _ h1) h2
 | agg h1 _ ih => exact .agg h1 fun i v v' a b => ih i v v' a b
 | tuple h1 _ ih => exact .tuple h1 fun i v v' a b => ih i v v' a b
 | func h1 _ h2 _ ih1 ih2 => exact .func h1 (fun i v v' a b => ih1 i v v' a b) h2 (fun i v v' a b => ih2 i v v' a b)
 | iface _ ih => exact .iface ih
 | wI h1 => exact .wI (h _ _ h1)
theorem cL.mono {ι ι' : Lay} {c : List Value} {es : List MapEntry} (h : cL ι c es) (hl : ∀ b e, ι b = some e → ι' b = some e) : cL ι' c es := by
 induction h with
 | nil => exact .nil
 | cons h1 h2 h3 _ ih => exact .cons h1 h2 (h3.mono hl) ih
theorem lU.mono {ι ι' : Lay} {w : World} {B : Nat} {c : List Value} (h : lU ι w B c) (hl : ∀ b e, ι b = some e → ι' b = some e) : lU ι' w B c := by
 obtain ⟨es, clock, h1, c', h0, h2, h3⟩ := h
 exact ⟨es, clock, h1, c', h0, h2.mono hl, h3⟩
theorem aP.plain {ι : Lay} {v v' : Value} (r : aP ι v v') (h : aX v = true) : v' = v := by
 cases r <;> first | rfl | simp [aX] at h
theorem aP.cellOf {ι : Lay} {v v' : Value} (r : aP ι v v') (h : cI v = true) : cI v' = true := by
 cases r <;> first | exact h | rfl | simp [cI] at h
theorem aP.undef {ι : Lay} : aP ι Go.undef Go.undef := .tuple rfl fun i v v' a _ => by simp at a
theorem aP.const {ι : Lay} {v : Value} (h : fY v = true) : aP ι v v := by
 cases v with
 | agg cs =>
  refine .agg rfl fun i v v' a b => ?_
  obtain rfl := Option.some.inj (a.symm.trans b)
  exact .atom (Array.all_eq_true_iff_forall_mem.1 h v (Array.mem_of_getElem? a))
 | tuple cs =>
  refine .tuple rfl fun i v v' a b => ?_
  obtain rfl := Option.some.inj (a.symm.trans b)
  exact .atom (Array.all_eq_true_iff_forall_mem.1 h v (Array.mem_of_getElem? a))
 | _ => exact .atom h
def dh (x y : ep) : Prop := ∀ sz c, (∃ ro f k, x = .cells sz ro f none k c) ↔ ∃ ro f k, y = .cells sz ro f none k c
theorem dh.of_eq {x y : ep} (h : x = y) : dh x y := h ▸ fun _ _ => Iff.rfl
theorem dh.refl (x : ep) : dh x x := .of_eq rfl
theorem dh.symm {x y : ep} (h : dh x y) : dh y x := fun sz c => (h sz c).symm
theorem dh.trans {x y z : ep} (h : dh x y) (h' : dh y z) : dh x z := fun sz c => (h sz c).trans (h' sz c)
def xO (n : Nat) (v : Value) : Prop := ∀ (ι : Lay) v', aP ι v v' → aP (fun b => if b < n then ι b else none) v v'
end Go.Proofs.YthekokdpplobhaaGreat.Eng
set_option linter.unusedVariables false
set_option linter.unusedSimpArgs false
namespace Go.Proofs.YthekokdpplobhaaGreat.Eng
variable {P : Program} {base : Nat} {ι : Lay} {h : ai} {w : World}
theorem dE.refl (ι : Lay) (h : ai) (w : World) : dE ι h h w w :=
 ⟨rfl, rfl, rfl, Nat.le_refl _, fun _ _ _ => rfl, fun _ _ _ h _ => h, fun _ _ v h => ⟨⟨v, h⟩, rfl⟩⟩
theorem bw.refl (hr : bn base ι h w) : bw base ι ι h h w :=
 ⟨fun _ _ => rfl, fun b e hb he => absurd (hr.lt b e he) (by omega), fun b sz ro f st k c hb ho => (by rw [hr.out b hb] at ho; cases ho), fun b h1 h2 => absurd h1 (by omega), fun _ _ => lu.refl _, Nat.le_refl _⟩
def gC (base : Nat) (ι : Lay) (h h' : ai) (w w' : World) (v v' : Value) : Prop :=
 ∃ ι', bw base ι ι' h h' w ∧ aP ι' v v' ∧ bn base ι' h' w' ∧ dE ι h h' w w'
theorem gC.same {v v' : Value} (hr : bn base ι h w) (hv : aP ι v v') : gC base ι h h w w v v' :=
 ⟨ι, bw.refl hr, hv, hr, dE.refl ι h w⟩
theorem lh {α : Type} {s : Sem α} {a : α} (hs : bI P s = some a) (w : World) : s.run P w = .ok a w := by
 induction s with
 | pure x => simp only [bI, Option.some.injEq] at hs; subst hs; rfl
 | program k ih => simp only [bI] at hs; exact ih P hs
 | _ => simp [bI] at hs
theorem bj {α β : Type} (s : Sem α) (f : α → Sem β) : bI P (s >>= f) = (bI P s).bind fun a => bI P (f a) := by
 show bI P (s.bind f) = _
 induction s with
 | pure x => rfl
 | program k ih => simp only [Sem.bind, bI]; exact ih P
 | _ => simp [Sem.bind, bI]
theorem bn.yF (hr : bn base ι h w) {b : Nat} {e : Ext} {c : List Value} (hb : ι b = some e) (hmp : e.mp = false) (hc : h.rd b = some c) : (∀ x ∈ c, cI x = true) ∧ c.length ≤ e.cap := by
 unfold ai.rd at hc
 split at hc
 · rename_i sz ro f k c0 ho
   injection hc with hc; subst hc
   exact ⟨(hr.na b e _ _ _ _ _ _ hb ho).2.2.2 hmp, (hr.na b e _ _ _ _ _ _ hb ho).2.1 hmp⟩
 · rename_i sz ro f m k c0 ho
   split at hc
   · injection hc with hc; subst hc
     exact ⟨(hr.na b e _ _ _ _ _ _ hb ho).2.2.2 hmp, (hr.na b e _ _ _ _ _ _ hb ho).2.1 hmp⟩
   · cases hc
 · cases hc
theorem fR (B o n : Nat) : (⟨B, o, none⟩ : Addr).add n = ⟨B, o + n, none⟩ := by unfold Addr.add; split <;> simp_all
theorem po {a : Addr} {v : Value} (hv : w.cell? a = some v) : (load a).run P w = .ok v w := by simp [run_load, hv]
theorem run_loadCells (a : Addr) (n : Nat) : ∀ (i : Nat) (acc : Array Value) (vs : List Value), vs.length = n → (∀ j v, vs[j]? = some v → w.cell? (a.add (i + j)) = some v) →
  (loadCellsFrom a i n acc).run P w = .ok (acc ++ vs.toArray) w := by
 induction n with
 | zero => intro i acc vs hl _; obtain rfl := List.length_eq_zero_iff.1 hl; simp [loadCellsFrom]
 | succ n ih =>
  intro i acc vs hl hc
  cases vs with
  | nil => simp at hl
  | cons v vs =>
   have h0 : w.cell? (a.add i) = some v := by simpa using hc 0 v rfl
   simp only [loadCellsFrom, Sem.run_bind, po h0, Result.andThen_ok]
   rw [ih (i + 1) (acc.push v) vs (by simpa using hl) (fun j u hj => by rw [show i + 1 + j = i + (j + 1) by omega]; exact hc (j + 1) u (by simpa using hj))]
   simp
theorem kA {t : TypeId} {x : Bool} (hx : de P t = some x) (w : World) : (isAgg t).run P w = .ok x w := by
 unfold de at hx
 cases hd : P.underlying t with
 | none => rw [hd] at hx; cases hx
 | some d =>
  rw [hd] at hx
  have hu : (underlying t).run P w = .ok d w := by simp [underlying, hd]
  simp only [isAgg, Sem.run_bind, hu, Result.andThen_ok]
  cases d <;> simp_all <;> rfl
theorem cP {t : TypeId} {n : Nat} (hs : cR P t = some n) (w : World) : (sizeOf t).run P w = .ok n w := by
 unfold cR at hs
 cases hi : P.info? t with
 | none => rw [hi] at hs; simp at hs
 | some i =>
  rw [hi] at hs
  simp only [Option.map_some, Option.some.injEq] at hs
  simp [sizeOf, typeInfo, hi, hs]
theorem pk {t : TypeId} {n : Nat} (hs : jR P t = some n) : ∃ i, (∀ w : World, (typeInfo t).run P w = .ok i w) ∧ i.bytes = n := by
 unfold jR at hs
 cases hi : P.info? t with
 | none => rw [hi] at hs; simp at hs
 | some i =>
  rw [hi] at hs
  simp only [Option.map_some, Option.some.injEq] at hs
  exact ⟨i, fun w => by simp [typeInfo, hi], hs⟩
theorem gx {t : TypeId} {z : Value} (hz : zeroOf P t = some z) (w : World) : (zeroValue t).run P w = .ok z w ∧ z.cells.all aX = true := by
 unfold zeroOf at hz
 cases hi : P.info? t with
 | none => rw [hi] at hz; simp at hz
 | some i =>
  rw [hi] at hz
  simp only [Option.bind_some] at hz
  cases hzz : i.zero with
  | none => rw [hzz] at hz; simp at hz
  | some z0 =>
   rw [hzz] at hz
   simp only [Option.bind_some] at hz
   split at hz
   · rename_i hall
     injection hz with hz; subst hz
     exact ⟨by simp [zeroValue, typeInfo, hi, hzz], hall⟩
   · cases hz
theorem bF {t : TypeId} {d : TypeDesc} (hd : P.underlying t = some d) (w : World) : (underlying t).run P w = .ok d w := by simp [underlying, hd]
theorem bn.list (hr : bn base ι h w) {b : Nat} {e : Ext} {c : List Value} (hb : ι b = some e) (hmp : e.mp = false) (hc : h.rd b = some c) :
  ∃ c' : List Value, c'.length = c.length ∧ (∀ (i : Nat) v', c'[i]? = some v' → w.cell? ⟨e.block, e.off + i, none⟩ = some v') ∧ ∀ (i : Nat) v v', c[i]? = some v → c'[i]? = some v' → aP ι v v' := by
 have hex : ∀ i, i < c.length → ∃ v', w.cell? ⟨e.block, e.off + i, none⟩ = some v' ∧ aP ι (c.getD i Go.undef) v' := fun i hi => by
  have := hr.val b e c i c[i] hb hmp hc (List.getElem?_eq_getElem hi)
  simpa [List.getD_eq_getElem?_getD, List.getElem?_eq_getElem hi] using this
 have hlist : ∀ n, n ≤ c.length → ∃ c' : List Value, c'.length = n ∧ (∀ (i : Nat) v', c'[i]? = some v' → w.cell? ⟨e.block, e.off + i, none⟩ = some v') ∧ ∀ (i : Nat) v v', i < n → c[i]? = some v → c'[i]? = some v' → aP ι v v' := by
  intro n
  induction n with
  | zero => intro _; exact ⟨[], rfl, by simp, by simp⟩
  | succ n ih =>
   intro hn
   obtain ⟨c', hl, h1, h2⟩ := ih (by omega)
   obtain ⟨v', hv', hr'⟩ := hex n (by omega)
   refine ⟨c' ++ [v'], by simp [hl], fun i u hu => ?_, fun i u u' hi hu hu' => ?_⟩
   · rcases Nat.lt_or_ge i c'.length with hlt | hge
     · rw [List.getElem?_append_left hlt] at hu; exact h1 i u hu
     · rw [List.getElem?_append_right hge] at hu
       have : i = n := by
        have := List.getElem?_eq_some_iff.1 hu
        obtain ⟨hx, _⟩ := this
        simp at hx; omega
       subst this
       rw [hl] at hu; simp at hu; subst hu; exact hv'
   · rcases Nat.lt_or_ge i c'.length with hlt | hge
     · rw [List.getElem?_append_left hlt] at hu'; exact h2 i u u' (by omega) hu hu'
     · have : i = n := by omega
       subst this
       rw [List.getElem?_append_right hge, hl] at hu'
       simp at hu'; subst hu'
       have : c.getD i Go.undef = u := by simp [List.getD_eq_getElem?_getD, hu]
       rw [← this]; exact hr'
 obtain ⟨c', hl, h1, h2⟩ := hlist c.length (Nat.le_refl _)
 exact ⟨c', hl, h1, fun i v v' hv hv' => h2 i v v' (List.getElem?_eq_some_iff.1 hv).1 hv hv'⟩
theorem sO (hr : bn base ι h w) {t : TypeId} {b off : Nat} {e : Ext} {v : Value} (hb : ι b = some e) (hmp : e.mp = false) (hv : gN P h t b off = some v) :
  ∃ v', (loadVar t ⟨e.block, e.off + off, none⟩).run P w = .ok v' w ∧ aP ι v v' := by
 unfold gN at hv
 split at hv
 · cases hv
 rename_i c hc
 obtain ⟨c', hl, h1, h2⟩ := hr.list hb hmp hc
 have hcells := (hr.yF hb hmp hc).1
 split at hv
 · cases hv
 · rename_i hagg
   split at hv
   · cases hv
   rename_i n hn
   split at hv
   · rename_i hle
     injection hv with hv; subst hv
     refine ⟨.agg ((c'.drop off).take n).toArray, ?_, .agg (by simp [hl]) fun i u u' hu' hu'' => ?_⟩
     · have hlc := run_loadCells (P := P) (w := w) ⟨e.block, e.off + off, none⟩ n 0 #[] ((c'.drop off).take n) (by simp; omega) (fun j u hj => by
         rw [fR, Nat.zero_add, show e.off + off + j = e.off + (off + j) by omega]
         rw [List.getElem?_take] at hj
         split at hj
         · rw [List.getElem?_drop] at hj; exact h1 _ _ hj
         · cases hj)
       simp only [loadVar, Sem.run_bind, kA hagg, Result.andThen_ok, if_true, cP hn, loadCells, hlc, Sem.run_pure, Array.empty_append]
     · simp only [List.getElem?_toArray, List.getElem?_take] at hu' hu''
       split at hu' <;> rename_i hi
       · rw [if_pos hi] at hu''
         rw [List.getElem?_drop] at hu' hu''
         exact h2 _ _ _ hu' hu''
       · cases hu'
   · cases hv
 · rename_i hagg
   obtain ⟨hi, hvi⟩ := List.getElem?_eq_some_iff.1 hv
   have hi' : off < c'.length := by omega
   refine ⟨c'[off], ?_, h2 off v _ hv (List.getElem?_eq_getElem hi')⟩
   simp only [loadVar, Sem.run_bind, kA hagg, Result.andThen_ok, Bool.false_eq_true, if_false]
   exact po (h1 off _ (List.getElem?_eq_getElem hi'))
end Go.Proofs.YthekokdpplobhaaGreat.Eng
set_option linter.unusedVariables false
set_option linter.unusedSimpArgs false
namespace Go.Proofs.YthekokdpplobhaaGreat.Eng
variable {P : Program} {base : Nat} {ι : Lay} {h : ai} {w : World}
theorem se {v : Value} (hv : cI v = true) : v.oneCell' = true := by cases v <;> simp_all [cI, Value.oneCell']
theorem me (w : World) (B o : Nat) (v : Value) (B' o' : Nat) (u : Value) (hu : w.cell? ⟨B', o', none⟩ = some u) :
  (w.setCell ⟨B, o, none⟩ v).cell? ⟨B', o', none⟩ = some (if B' = B ∧ o' = o then v else u) := by
 unfold World.cell? at hu ⊢
 simp only [World.setCell, Array.getElem?_modify]
 by_cases hB : B = B'
 · subst hB
   simp only [if_true]
   cases hg : w.heap[B]? with
   | none => rw [hg] at hu; cases hu
   | some x =>
    rw [hg] at hu
    cases x with
    | cells c el fr =>
     simp only [Option.isSome_none, Bool.false_eq_true, if_false] at hu
     simp only [Option.map_some, Option.isSome_none, Bool.false_eq_true, if_false, Array.getElem?_setIfInBounds, true_and]
     obtain ⟨hlt, _⟩ := Array.getElem?_eq_some_iff.1 hu
     by_cases ho : o = o'
     · subst ho; simp [hlt]
     · rw [if_neg ho, if_neg (fun e => ho e.symm), hu]
    | _ => cases hu
 · rw [if_neg hB, if_neg (fun e => hB e.1.symm)]; exact hu
theorem kb (w : World) (a : Addr) (v : Value) (b : Addr) : (w.setCell a v).frozen? b = w.frozen? b := by
 unfold World.frozen?
 simp only [World.setCell, Array.getElem?_modify]
 by_cases hB : a.block = b.block
 · rw [if_pos hB]
   cases hg : w.heap[b.block]? with
   | none => rfl
   | some x => cases x <;> rfl
 · rw [if_neg hB]
theorem oJ (w : World) (a : Addr) (v : Value) (B : Nat) (hB : B ≠ a.block) : (w.setCell a v).heap[B]? = w.heap[B]? := by
 simp only [World.setCell, Array.getElem?_modify]
 rw [if_neg (fun e => hB e.symm)]
structure sP (w w' : World) (B o : Nat) (vs : List Value) : Prop where
 os : w'.os = w.os
 tape : w'.tape = w.tape
 output : w'.output = w.output
 size : w'.heap.size = w.heap.size
 block : ∀ B', B' ≠ B → w'.heap[B']? = w.heap[B']?
 cell : ∀ B' o' u, w.cell? ⟨B', o', none⟩ = some u → w'.cell? ⟨B', o', none⟩ = some (if B' = B ∧ o ≤ o' ∧ o' < o + vs.length then vs.getD (o' - o) u else u)
 frozen : ∀ a, w'.frozen? a = w.frozen? a
 same : vs = [] → w' = w
theorem kp (B o : Nat) : ∀ (vs : List Value) (i : Nat) (w : World), (∀ x ∈ vs, cI x = true) →
  (∀ j, j < vs.length → (∃ u, w.cell? ⟨B, o + (i + j), none⟩ = some u) ∧ w.frozen? ⟨B, o + (i + j), none⟩ = false) →
  ∃ w', (storeCells ⟨B, o, none⟩ vs i).run P w = .ok () w' ∧ sP w w' B (o + i) vs := by
 intro vs
 induction vs with
 | nil => intro i w _ _; exact ⟨w, rfl, ⟨rfl, rfl, rfl, rfl, fun _ _ => rfl, fun B' o' u hu => by simp [hu], fun _ => rfl, fun _ => rfl⟩⟩
 | cons v vs ih =>
  intro i w hcell hroom
  obtain ⟨⟨u0, hu0⟩, hf0⟩ := hroom 0 (by simp)
  rw [Nat.add_zero] at hu0 hf0
  obtain ⟨w', hrun, hw⟩ := ih (i + 1) (w.setCell ⟨B, o + i, none⟩ v) (fun x hx => hcell x (List.mem_cons_of_mem _ hx)) (fun j hj => by
   obtain ⟨⟨u, hu⟩, hf⟩ := hroom (j + 1) (by simpa using hj)
   rw [show i + (j + 1) = i + 1 + j by omega] at hu hf
   exact ⟨⟨_, me w B (o + i) v _ _ u hu⟩, by rw [kb]; exact hf⟩)
  refine ⟨w', ?_, ?_⟩
  · simp only [storeCells, Sem.run_bind, fR, run_store P w _ v .plain (se (hcell v (by simp))), hu0, hf0, Bool.false_eq_true, if_false, Result.andThen_ok]
    exact hrun
  · refine ⟨hw.os, hw.tape, hw.output, by rw [hw.size]; simp [World.setCell], fun B' hB' => ?_, fun B' o' u hu => ?_, fun a => by rw [hw.frozen, kb], fun e => by cases e⟩
    · rw [hw.block B' hB', oJ _ _ _ _ hB']
    · have h1 := hw.cell B' o' _ (me w B (o + i) v B' o' u hu)
      rw [h1]
      congr 1
      simp only [List.length_cons]
      by_cases hB : B' = B
      · subst hB
        by_cases e0 : o' = o + i
        · subst e0
          rw [if_neg (by omega), if_pos ⟨rfl, rfl⟩, if_pos ⟨rfl, by omega, by omega⟩, Nat.sub_self]
          rfl
        · rw [show (if B' = B' ∧ o' = o + i then v else u) = u from if_neg (fun q => e0 q.2)]
          by_cases hin : o + (i + 1) ≤ o' ∧ o' < o + (i + 1) + vs.length
          · rw [if_pos ⟨rfl, hin⟩, if_pos ⟨rfl, by omega, by omega⟩, show o' - (o + i) = (o' - (o + (i + 1))) + 1 by omega]
            simp
          · rw [if_neg (fun q => hin q.2), if_neg (by omega)]
      · simp [hB]
theorem yz {h h' : ai} {b : Nat} (h0 : h'.o b = h.o b) (h1 : ∀ sz ro f m k c, h.o b = .cells sz ro f (some m) k c → h'.o m = h.o m) : h'.rd b = h.rd b := by
 unfold ai.rd
 rw [h0]
 cases hb : h.o b with
 | dead => rfl
 | cells sz ro f st k c =>
  cases st with
  | none => rfl
  | some m => simp only; rw [h1 sz ro f m k c hb]
theorem tv {h : ai} {b : Nat} {c : List Value} (hc : h.rd b = some c) : ∃ sz ro f st k, h.o b = .cells sz ro f st k c := by
 unfold ai.rd at hc
 split at hc
 · rename_i sz ro f k c0 ho; injection hc with hc; subst hc; exact ⟨_, _, _, _, _, ho⟩
 · rename_i sz ro f m k c0 ho
   split at hc
   · injection hc with hc; subst hc; exact ⟨_, _, _, _, _, ho⟩
   · cases hc
 · cases hc
theorem iM {h : ai} {b : Nat} {c : List Value} (hc : h.rd b = some c) : (∃ sz ro f k, h.o b = .cells sz ro f none k c) ∨ ∃ sz ro f m k sz' ro' f' c', h.o b = .cells sz ro f (some m) k c ∧ h.o m = .cells sz' ro' f' none 0 c' := by
 unfold ai.rd at hc
 split at hc
 · rename_i sz ro f k c0 ho; injection hc with hc; subst hc; exact .inl ⟨sz, ro, f, k, ho⟩
 · rename_i sz ro f m k c0 ho
   split at hc
   · rename_i sz' ro' f' c' hm; injection hc with hc; subst hc; exact .inr ⟨sz, ro, f, m, k, sz', ro', f', c', ho, hm⟩
   · cases hc
 · cases hc
theorem oT {c cs : List Value} {off : Nat} (hle : off + cs.length ≤ c.length) : (dj c off cs).length = c.length := by
 simp [dj]; omega
theorem gK {c cs : List Value} {off : Nat} (hle : off + cs.length ≤ c.length) (i : Nat) :
  (dj c off cs)[i]? = if off ≤ i ∧ i < off + cs.length then cs[i - off]? else c[i]? := by
 unfold dj
 rcases Nat.lt_or_ge i off with h1 | h1
 · rw [if_neg (by omega), List.append_assoc, List.getElem?_append_left (by simp; omega), List.getElem?_take, if_pos h1]
 · rcases Nat.lt_or_ge i (off + cs.length) with h2 | h2
   · rw [if_pos ⟨h1, h2⟩, List.getElem?_append_left (by simp; omega), List.getElem?_append_right (by simp; omega)]
     congr 1; simp; omega
   · rw [if_neg (by omega), List.getElem?_append_right (by simp; omega), List.getElem?_drop]
     congr 1; simp; omega
theorem v8 (hr : bn base ι h w) {b : Nat} {e : Ext} {sz f k : Nat} {c cs cs' : List Value} {off : Nat} {w' : World} (hb : ι b = some e) (hmp : e.mp = false) (ho : h.o b = .cells sz false f none k c)
  (hle : off + cs.length ≤ c.length) (hlen : cs'.length = cs.length) (hcell : ∀ x ∈ cs, cI x = true) (hv : ∀ (i : Nat) v v', cs[i]? = some v → cs'[i]? = some v' → aP ι v v')
  (hw : sP w w' e.block (e.off + off) cs') :
  bn base ι (h.set b (.cells sz false f none (k + 1) (dj c off cs))) w' ∧ dE ι h (h.set b (.cells sz false f none (k + 1) (dj c off cs))) w w' ∧
   bw base ι ι h (h.set b (.cells sz false f none (k + 1) (dj c off cs))) w := by
 obtain ⟨hsz, hcap, hbase, hcs⟩ := hr.na b e _ _ _ _ _ _ hb ho
 have hcap1 := hcap hmp
 generalize hh' : h.set b (.cells sz false f none (k + 1) (dj c off cs)) = h'
 have hset : ∀ b', h'.o b' = if b' = b then .cells sz false f none (k + 1) (dj c off cs) else h.o b' := fun b' => by rw [← hh']; rfl
 have hn' : h'.n = h.n := by rw [← hh']; rfl
 have hlensp := oT (c := c) (cs := cs) hle
 have hsame : ∀ y bP ro1 f1 st1 k1 c1, h'.o y = .cells bP ro1 f1 st1 k1 c1 → ∃ k0 c0, h.o y = .cells bP ro1 f1 st1 k0 c0 ∧ c1.length = c0.length := by
  intro y bP ro1 f1 st1 k1 c1 hy
  rw [hset] at hy
  split at hy
  · rename_i e1; subst e1
    injection hy with e1 e2 e3 e4 e5 e6
    subst e1 e2 e3 e4 e5 e6
    exact ⟨k, c, ho, hlensp⟩
  · exact ⟨k1, c1, hy, rfl⟩
 have hrd : ∀ y ey cy, y ≠ b → ι y = some ey → h'.rd y = some cy → h.rd y = some cy ∧ (ey.block = e.block → ey.off + ey.cap ≤ e.off ∨ e.off + e.cap ≤ ey.off) := by
  intro y ey cy hne hy hcy
  have key : ∀ bP ro1 f1 st1 k1 c1, h.o y = .cells bP ro1 f1 st1 k1 c1 → f1 ≠ f → (ey.block = e.block → ey.off + ey.cap ≤ e.off ∨ e.off + e.cap ≤ ey.off) :=
   fun bP ro1 f1 st1 k1 c1 q1 q2 => hr.apart y ey b e _ _ _ _ _ _ _ _ _ _ _ hy hb q1 ho q2
  rcases iM hcy with ⟨bP, ro1, f1, k1, q1⟩ | ⟨bP, ro1, f1, m, k1, fk, ro2, f2, c2, q1, q2⟩
  · rw [hset, if_neg hne] at q1
    refine ⟨by unfold ai.rd; rw [q1], key _ _ _ _ _ _ q1 fun e1 => ?_⟩
    subst e1
    have := hr.uniq y b _ _ _ _ _ _ _ _ _ _ q1 ho (.inl rfl)
    have := hr.uniq b y _ _ _ _ _ _ _ _ _ _ ho q1 (.inr ⟨rfl, rfl⟩)
    omega
  · rw [hset, if_neg hne] at q1
    have hmb : m ≠ b := by
     intro e1
     rw [hset, if_pos e1] at q2
     injection q2 with _ _ _ _ q2
     omega
    rw [hset, if_neg hmb] at q2
    refine ⟨by unfold ai.rd; rw [q1]; simp only; rw [q2]; rfl, key _ _ _ _ _ _ q1 fun e1 => ?_⟩
    subst e1
    obtain ⟨_, cj, ro3, st3, k3, c3, q3⟩ := hr.wf y _ _ _ _ _ _ q1
    rw [q2] at q3
    injection q3 with _ _ q3
    subst q3
    have := hr.uniq m b _ _ _ _ _ _ _ _ _ _ q2 ho (.inl rfl)
    have := hr.uniq b m _ _ _ _ _ _ _ _ _ _ ho q2 (.inr ⟨rfl, rfl⟩)
    omega
 have hrdb : h'.rd b = some (dj c off cs) := by unfold ai.rd; rw [hset, if_pos rfl]
 have hrd0 : h.rd b = some c := by unfold ai.rd; rw [ho]
 refine ⟨⟨fun b e hb => by rw [hn']; exact hr.lt b e hb, fun b e hb => by rw [hw.size]; exact hr.gG b e hb, ?_, ?_, ?_, ?_, ?_, ?_, ?_, ?_, ?_, ?_⟩, ⟨hw.os, hw.tape, hw.output, Nat.le_of_eq hw.size.symm, ?_, ?_, ?_⟩,
  ⟨fun _ _ => rfl, fun y ey hy he => absurd (hr.lt y ey he) (by omega), fun y bP ro1 f1 st1 k1 c1 hy hoy => ?_, fun y h1 h2 => absurd h1 (by omega), ?_, by omega⟩⟩
 · intro y ey bP ro1 f1 st1 k1 c1 hy hoy
   rw [hset] at hoy
   by_cases hyb : y = b
   · subst hyb
     rw [if_pos rfl] at hoy
     injection hoy with e1 e2 e3 e4 e5 e6
     subst e1 e2 e3 e4 e5 e6
     obtain rfl := Option.some.inj (hb.symm.trans hy)
     refine ⟨hsz, by rw [hlensp]; exact hcap, hbase, fun _ x hx => ?_⟩
     unfold dj at hx
     simp only [List.mem_append] at hx
     rcases hx with (hx | hx) | hx
     · exact hcs hmp x (List.mem_of_mem_take hx)
     · exact hcell x hx
     · exact hcs hmp x (List.mem_of_mem_drop hx)
   · rw [if_neg hyb] at hoy; exact hr.na y ey _ _ _ _ _ _ hy hoy
 · intro y ey cy i v hy hymp hry hi
   by_cases hyb : y = b
   · subst hyb
     obtain rfl := Option.some.inj (hb.symm.trans hy)
     rw [hrdb] at hry
     injection hry with hry; subst hry
     rw [gK hle] at hi
     split at hi
     · rename_i hin
       have hlt : i - off < cs'.length := by omega
       have hic : i < c.length := by omega
       obtain ⟨v0, hv0, _⟩ := hr.val y e c i c[i] hb hmp hrd0 (List.getElem?_eq_getElem hic)
       have h2 := hw.cell _ _ _ hv0
       rw [if_pos ⟨rfl, by omega, by omega⟩, show e.off + i - (e.off + off) = i - off by omega] at h2
       refine ⟨_, h2, ?_⟩
       have h3 : cs'.getD (i - off) v0 = cs'[i - off] := by simp [List.getD_eq_getElem?_getD, List.getElem?_eq_getElem hlt]
       rw [h3]
       exact hv (i - off) v _ hi (List.getElem?_eq_getElem hlt)
     · rename_i hin
       obtain ⟨v0, hv0, hv1⟩ := hr.val y e c i v hb hmp hrd0 hi
       have h2 := hw.cell _ _ _ hv0
       rw [if_neg (by omega)] at h2
       exact ⟨v0, h2, hv1⟩
   · obtain ⟨h1, h3⟩ := hrd y ey cy hyb hy hry
     obtain ⟨v0, hv0, hv1⟩ := hr.val y ey cy i v hy hymp h1 hi
     have h2 := hw.cell _ _ _ hv0
     have h4 := (hr.yF hy hymp h1).2
     have h5 := (List.getElem?_eq_some_iff.1 hi).1
     rw [if_neg (fun ⟨q1, q2, q3⟩ => by rcases h3 q1 with h3 | h3 <;> omega)] at h2
     exact ⟨v0, h2, hv1⟩
 · intro y ey bP f1 st1 k1 c1 i hy hoy hi
   obtain ⟨k0, c0, q1, _⟩ := hsame y _ _ _ _ _ _ hoy
   obtain ⟨⟨v, hv⟩, hf⟩ := hr.room y ey _ _ _ _ _ i hy q1 hi
   exact ⟨⟨_, hw.cell _ _ _ hv⟩, by rw [hw.frozen]; exact hf⟩
 · intro b1 e1 b2 e2 bP ro1 f1 st1 k1 c1 fk f2 st2 k2 c2 h1 h2 o1 o2
   obtain ⟨_, _, q1, _⟩ := hsame _ _ _ _ _ _ _ o1
   obtain ⟨_, _, q2, _⟩ := hsame _ _ _ _ _ _ _ o2
   exact hr.apart b1 e1 b2 e2 _ _ _ _ _ _ _ _ _ _ _ h1 h2 q1 q2
 · intro b1 e1 b2 e2 f1 bP ro1 st1 k1 c1 fk ro2 st2 k2 c2 h1 h2 o1 o2 hlt hB
   obtain ⟨_, _, q1, l1⟩ := hsame _ _ _ _ _ _ _ o1
   obtain ⟨_, _, q2, l2⟩ := hsame _ _ _ _ _ _ _ o2
   rw [l1, l2]
   exact hr.link b1 e1 b2 e2 _ _ _ _ _ _ _ _ _ _ _ h1 h2 q1 q2 hlt hB
 · intro y bP ro1 f1 m k1 c1 hoy
   rw [hn']
   obtain ⟨_, _, q1, _⟩ := hsame _ _ _ _ _ _ _ hoy
   obtain ⟨q2, cj, ro3, st3, k3, c3, q3⟩ := hr.wf y _ _ _ _ _ _ q1
   refine ⟨q2, ?_⟩
   rw [hset]
   split
   · rename_i e1; subst e1
     rw [ho] at q3
     injection q3 with _ _ q3
     subst q3
     exact ⟨_, _, _, _, _, rfl⟩
   · exact ⟨_, _, _, _, _, q3⟩
 · intro y bP ro1 f1 st1 k1 c1 hoy
   obtain ⟨_, _, q1, _⟩ := hsame _ _ _ _ _ _ _ hoy
   exact hr.jw y _ _ _ _ _ _ q1
 · intro y z f1 bP ro1 st1 k1 c1 fk ro2 k2 c2 o1 o2 hor
   obtain ⟨_, _, q1, _⟩ := hsame _ _ _ _ _ _ _ o1
   obtain ⟨_, _, q2, _⟩ := hsame _ _ _ _ _ _ _ o2
   exact hr.uniq y z _ _ _ _ _ _ _ _ _ _ q1 q2 hor
 · intro y hy
   rw [hset, if_neg (by rw [hn'] at hy; have := hr.lt b e hb; omega)]
   exact hr.out y (by omega)
 · intro y ey bP ro1 f1 st1 k1 c1 hy hymp hoy
   have hyb : y ≠ b := fun q => by subst q; obtain rfl := Option.some.inj (hb.symm.trans hy); rw [hmp] at hymp; cases hymp
   rw [hset, if_neg hyb] at hoy
   obtain ⟨q2, q3⟩ := hr.maps y ey _ _ _ _ _ _ hy hymp hoy
   have hne : ey.block ≠ e.block := fun q => hyb (q2 b e hb q.symm).symm
   exact ⟨q2, q3.world (hw.block _ hne)⟩
 · intro B hB hall
   by_cases hBe : B = e.block
   · subst hBe
     rcases hall b e hb rfl with h1 | ⟨h1, _⟩
     · rw [hset, if_pos rfl, ho] at h1
       injection h1 with _ _ _ _ h1
       omega
     · rw [hmp] at h1; cases h1
   · exact hw.block B hBe
 · intro B o' v hcv hall
   have h2 := hw.cell _ _ _ hcv
   split at h2
   · rename_i hin
     obtain ⟨rfl, q2, q3⟩ := hin
     have h3 := hall b e hb rfl (by omega) (by omega)
     exfalso
     rcases h3 with h3 | ⟨_, _, _, _, _, m, h3, h4, _⟩
     · rw [hset, if_pos rfl, ho] at h3
       injection h3 with _ _ _ _ h3
       omega
     · rw [hset, if_pos rfl] at h4
       rw [ho] at h3
       cases h4
   · exact h2
 · intro B o' v hcv
   exact ⟨⟨_, hw.cell _ _ _ hcv⟩, hw.frozen _⟩
 · obtain ⟨_, _, q1, _⟩ := hsame _ _ _ _ _ _ _ hoy
   rw [hr.out y hy] at q1
   cases q1
 · intro y hy
   rw [hset]
   split
   · rename_i e1; subst e1
     rw [ho]
     exact ⟨false, none, k + 1, _, rfl, id, by omega, fun e => by omega, fun m e => by cases e⟩
   · exact lu.refl _
theorem vb (hr : bn base ι h w) {t : TypeId} {b off : Nat} {e : Ext} {v v' : Value} {h' : ai} (hb : ι b = some e) (hmp : e.mp = false) (hv : gg P h t b off v = some h') (hvv : aP ι v v') :
  ∃ w', (storeVar t ⟨e.block, e.off + off, none⟩ v').run P w = .ok () w' ∧ bn base ι h' w' ∧ dE ι h h' w w' ∧ bw base ι ι h h' w := by
 unfold gg at hv
 split at hv
 · rename_i sz f k c ho
   split at hv
   · rename_i hc
     obtain ⟨hsz, hle, hcell⟩ := hc
     injection hv with hv; subst hv
     have hcs : v'.cells.size = v.cells.size ∧ ∀ (i : Nat) x x', v.cells[i]? = some x → v'.cells[i]? = some x' → aP ι x x' := by
      have one : ∀ {x x' : Value}, aP ι x x' → (∀ (i : Nat) y y', (#[x] : Array Value)[i]? = some y → (#[x'] : Array Value)[i]? = some y' → aP ι y y') := by
       intro x x' hx i y y' hy hy'
       cases i with
       | zero => simp at hy hy'; subst hy hy'; exact hx
       | succ i => simp at hy
      cases hvv with
      | agg h1 h2 => exact ⟨h1.symm, h2⟩
      | atom h1 =>
       have hc1 : v.cells = #[v] := by cases v <;> first | rfl | (simp [aX] at h1; done)
       rw [hc1]; exact ⟨rfl, one (.atom h1)⟩
      | ptr h1 h2 => exact ⟨rfl, one (.ptr h1 h2)⟩
      | map h1 h2 => exact ⟨rfl, one (.map h1 h2)⟩
      | slice h1 h0 h2 h3 => exact ⟨rfl, one (.slice h1 h0 h2 h3)⟩
      | eu h1 h2 => exact ⟨rfl, one (.eu h1 h2)⟩
      | tuple h1 h2 => exact ⟨rfl, one (.tuple h1 h2)⟩
      | func h1 h2 h3 h4 => exact ⟨rfl, one (.func h1 h2 h3 h4)⟩
      | iface h1 => exact ⟨rfl, one (.iface h1)⟩
      | wI h1 => exact ⟨rfl, one (.wI h1)⟩
     obtain ⟨hn, hrel⟩ := hcs
     have hcell' : ∀ x ∈ v.cells.toList, cI x = true := fun x hx => Array.all_eq_true_iff_forall_mem.1 hcell x (Array.mem_toList_iff.1 hx)
     have hcell2 : ∀ x ∈ v'.cells.toList, cI x = true := by
      intro x hx
      obtain ⟨i, hi, rfl⟩ := List.mem_iff_getElem.1 hx
      have hi' : i < v.cells.toList.length := by simpa [← hn] using hi
      have h1 : v.cells[i]? = some v.cells.toList[i] := by simp
      have h2 : v'.cells[i]? = some v'.cells.toList[i] := by simp
      exact (hrel i _ _ h1 h2).cellOf (hcell' _ (List.getElem_mem hi'))
     have hcap := (hr.na b e _ _ _ _ _ _ hb ho).2.1 hmp
     obtain ⟨w', hrun, hw⟩ := kp (P := P) e.block (e.off + off) v'.cells.toList 0 w hcell2 (fun j hj => by
      have hj' : j < v.cells.size := by simpa [hn] using hj
      have := hr.room b e _ _ _ _ _ (off + j) hb ho (by omega)
      rw [Nat.zero_add, show e.off + off + j = e.off + (off + j) by omega]
      exact this)
     rw [Nat.add_zero] at hw
     have := v8 hr hb hmp ho (cs := v.cells.toList) (cs' := v'.cells.toList) (off := off) (by simpa using hle) (by simp [hn]) hcell' (fun i x x' hx hx' => hrel i x x' (by simpa using hx) (by simpa using hx')) hw
     refine ⟨w', ?_, this.1, this.2.1, this.2.2⟩
     simp only [storeVar, Sem.run_bind, cP hsz, Result.andThen_ok, hn, ne_eq, not_true_eq_false, if_false]
     exact hrun
   · cases hv
 · cases hv
end Go.Proofs.YthekokdpplobhaaGreat.Eng
set_option linter.unusedVariables false
set_option linter.unusedSimpArgs false
namespace Go.Proofs.YthekokdpplobhaaGreat.Eng
variable {P : Program} {base : Nat} {ι : Lay} {h : ai} {w : World}
structure eJ (w w' : World) (Z : Nat → Nat → Prop) : Prop where
 os : w'.os = w.os
 tape : w'.tape = w.tape
 output : w'.output = w.output
 size : w.heap.size ≤ w'.heap.size
 block : ∀ B, B < w.heap.size → (∀ o, ¬ Z B o) → w'.heap[B]? = w.heap[B]?
 cell : ∀ B o u, w.cell? ⟨B, o, none⟩ = some u → ¬ Z B o → w'.cell? ⟨B, o, none⟩ = some u
 there : ∀ B o u, w.cell? ⟨B, o, none⟩ = some u → (∃ u', w'.cell? ⟨B, o, none⟩ = some u') ∧ w'.frozen? ⟨B, o, none⟩ = w.frozen? ⟨B, o, none⟩
theorem fp {w : World} {B o : Nat} {u : Value} (hc : w.cell? ⟨B, o, none⟩ = some u) : B < w.heap.size := by
 rcases Nat.lt_or_ge B w.heap.size with h | h
 · exact h
 · unfold World.cell? at hc
   simp only [Array.getElem?_eq_none h] at hc
   cases hc
theorem eJ.push (w : World) (x : Obj) (n : Nat) : eJ w { w with heap := w.heap.push x, drawn := n } fun _ _ => False := by
 have hb : ∀ B, B < w.heap.size → (w.heap.push x)[B]? = w.heap[B]? := fun B hB => by rw [Array.getElem?_push, if_neg (by omega)]
 refine ⟨rfl, rfl, rfl, by simp, fun B hB _ => hb B hB, fun B o u hu _ => ?_, fun B o u hu => ?_⟩
 · have := fp hu
   unfold World.cell? at hu ⊢
   simp only [hb B this]
   exact hu
 · have := fp hu
   refine ⟨⟨u, ?_⟩, ?_⟩
   · unfold World.cell? at hu ⊢
     simp only [hb B this]
     exact hu
   · unfold World.frozen?
     simp only [hb B this]
theorem sP.lD {w w' : World} {B o : Nat} {vs : List Value} (hw : sP w w' B o vs) : eJ w w' fun B' o' => B' = B ∧ o ≤ o' ∧ o' < o + vs.length := by
 refine ⟨hw.os, hw.tape, hw.output, Nat.le_of_eq hw.size.symm, fun B' hB' hz => ?_, fun B' o' u hu hz => ?_, fun B' o' u hu => ⟨⟨_, hw.cell _ _ _ hu⟩, hw.frozen _⟩⟩
 · by_cases e : B' = B
   · cases vs with
     | nil => rw [hw.same rfl]
     | cons v vs => exact absurd ⟨e, Nat.le_refl _, by simp⟩ (hz o)
   · exact hw.block B' e
 · rw [hw.cell _ _ _ hu, if_neg hz]
def Lay.add (ι : Lay) (n : Nat) (e : Ext) : Lay := fun b => if b = n then some e else ι b
theorem Lay.ju {ι : Lay} {n : Nat} {e : Ext} (hn : ι n = none) (b : Nat) (x : Ext) (hb : ι b = some x) : ι.add n e b = some x := by
 unfold Lay.add
 split
 · rename_i h; subst h; rw [hn] at hb; cases hb
 · exact hb
theorem bn.none (hr : bn base ι h w) {b : Nat} (hb : h.n ≤ b) : ι b = none := by
 cases hx : ι b with
 | none => rfl
 | some e => exact absurd (hr.lt b e hx) (by omega)
theorem pJ (hr : bn base ι h w) (hbase : base ≤ w.heap.size) {w' : World} (hT : eJ w w' fun _ _ => False) {en : Ext} {sz : Nat} {cn : List Value}
  (hblk : w.heap.size ≤ en.block ∧ en.block < w'.heap.size) (hsz : en.sz = sz) (hcap : en.mp = false → cn.length ≤ en.cap) (hcell : en.mp = false → ∀ x ∈ cn, cI x = true)
  (hval : en.mp = false → ∀ (i : Nat) v, cn[i]? = some v → ∃ v', w'.cell? ⟨en.block, en.off + i, none⟩ = some v' ∧ aP ι v v')
  (hroom : ∀ i, i < en.cap → (∃ v, w'.cell? ⟨en.block, en.off + i, none⟩ = some v) ∧ w'.frozen? ⟨en.block, en.off + i, none⟩ = false) (hmap : en.mp = true → lU ι w' en.block cn := by intro q; cases q) :
  bn base (ι.add h.n en) (h.new (.cells sz false h.n none 0 cn)) w' ∧ dE ι h (h.new (.cells sz false h.n none 0 cn)) w w' ∧ bw base ι (ι.add h.n en) h (h.new (.cells sz false h.n none 0 cn)) w := by
 have hn := hr.none (Nat.le_refl h.n)
 generalize hh' : h.new (.cells sz false h.n none 0 cn) = h'
 have hnew : ∀ b, h'.o b = if b = h.n then .cells sz false h.n none 0 cn else h.o b := fun b => by rw [← hh']; rfl
 have hn' : h'.n = h.n + 1 := by rw [← hh']; rfl
 have hadd : ∀ b e, ι.add h.n en b = some e → (b = h.n ∧ e = en) ∨ (b ≠ h.n ∧ ι b = some e) := by
  intro b e hb
  unfold Lay.add at hb
  split at hb
  · rename_i hh; exact .inl ⟨hh, (Option.some.inj hb).symm⟩
  · rename_i hh; exact .inr ⟨hh, hb⟩
 have hlive : ∀ b bP ro1 f1 st1 k1 c1, h.o b = .cells bP ro1 f1 st1 k1 c1 → b < h.n := by
  intro b bP ro1 f1 st1 k1 c1 hb
  rcases Nat.lt_or_ge b h.n with q | q
  · exact q
  · rw [hr.out b q] at hb; cases hb
 have hrd : ∀ y c, y < h.n → h'.rd y = some c → h.rd y = some c := by
  intro y c hy hc
  rw [← hc]
  refine (yz (by rw [hnew, if_neg (by omega)]) fun bP ro1 f1 m k1 c1 hh => ?_).symm
  rw [hnew, if_neg (by have := (hr.wf y _ _ _ _ _ _ hh).1; omega)]
 have hcase : ∀ b bP ro1 f1 st1 k1 c1, h'.o b = .cells bP ro1 f1 st1 k1 c1 → (b = h.n ∧ bP = sz ∧ ro1 = false ∧ f1 = h.n ∧ st1 = none ∧ k1 = 0 ∧ c1 = cn) ∨ (b < h.n ∧ h.o b = .cells bP ro1 f1 st1 k1 c1) := by
  intro b bP ro1 f1 st1 k1 c1 ho
  rw [hnew] at ho
  split at ho
  · rename_i e1
    injection ho with e2 e3 e4 e5 e6 e7
    exact .inl ⟨e1, e2.symm, e3.symm, e4.symm, e5.symm, e6.symm, e7.symm⟩
  · exact .inr ⟨hlive b _ _ _ _ _ _ ho, ho⟩
 refine ⟨⟨?_, ?_, ?_, ?_, ?_, ?_, ?_, ?_, ?_, ?_, ?_, ?_⟩, ⟨hT.os, hT.tape, hT.output, hT.size, fun B hB _ => hT.block B hB (fun _ => id), fun B o v hc _ => hT.cell B o v hc id, fun B o v hc => hT.there B o v hc⟩, ⟨?_, ?_, ?_, ?_, ?_, by omega⟩⟩
 · intro b e hb
   rcases hadd b e hb with ⟨rfl, _⟩ | ⟨_, hb⟩
   · omega
   · have := hr.lt b e hb; omega
 · intro b e hb
   rcases hadd b e hb with ⟨_, rfl⟩ | ⟨_, hb⟩
   · exact hblk.2
   · exact Nat.lt_of_lt_of_le (hr.gG b e hb) hT.size
 · intro b e bP ro1 f1 st1 k1 c1 hb ho
   rcases hadd b e hb with ⟨rfl, rfl⟩ | ⟨hne, hb⟩
   · rcases hcase _ _ _ _ _ _ _ ho with ⟨_, rfl, rfl, rfl, rfl, rfl, rfl⟩ | ⟨q, _⟩
     · exact ⟨hsz, hcap, fun _ => Nat.le_trans hbase hblk.1, hcell⟩
     · omega
   · rcases hcase _ _ _ _ _ _ _ ho with ⟨q, _⟩ | ⟨_, q⟩
     · exact absurd q hne
     · exact hr.na b e _ _ _ _ _ _ hb q
 · intro b e c i v hb hmp hc hi
   rcases hadd b e hb with ⟨rfl, rfl⟩ | ⟨hne, hb⟩
   · have : h'.rd h.n = some cn := by unfold ai.rd; rw [hnew, if_pos rfl]
     rw [this] at hc
     injection hc with hc; subst hc
     obtain ⟨v', h1, h2⟩ := hval hmp i v hi
     exact ⟨v', h1, h2.mono (Lay.ju hn)⟩
   · obtain ⟨v', h1, h2⟩ := hr.val b e c i v hb hmp (hrd b c (hr.lt b e hb) hc) hi
     exact ⟨v', hT.cell _ _ _ h1 id, h2.mono (Lay.ju hn)⟩
 · intro b e bP f1 st1 k1 c1 i hb ho hi
   rcases hadd b e hb with ⟨rfl, rfl⟩ | ⟨hne, hb⟩
   · exact hroom i hi
   · rcases hcase _ _ _ _ _ _ _ ho with ⟨q, _⟩ | ⟨_, q⟩
     · exact absurd q hne
     · obtain ⟨⟨v, hv⟩, hf⟩ := hr.room b e _ _ _ _ _ i hb q hi
       obtain ⟨h1, h2⟩ := hT.there _ _ _ hv
       exact ⟨h1, by rw [h2]; exact hf⟩
 · intro b1 e1 b2 e2 bP ro1 f1 st1 k1 c1 fk f2 st2 k2 c2 h1 h2 o1 o2 hf hB
   rcases hadd b1 e1 h1 with ⟨q1, r1⟩ | ⟨q1, r1⟩ <;> rcases hadd b2 e2 h2 with ⟨q2, r2⟩ | ⟨q2, r2⟩
   · rcases hcase _ _ _ _ _ _ _ o1 with ⟨_, _, _, q3, _⟩ | ⟨q3, _⟩
     · rcases hcase _ _ _ _ _ _ _ o2 with ⟨_, _, _, q4, _⟩ | ⟨q4, _⟩
       · omega
       · omega
     · omega
   · have := hr.gG b2 e2 r2; subst r1; omega
   · have := hr.gG b1 e1 r1; subst r2; omega
   · rcases hcase _ _ _ _ _ _ _ o1 with ⟨q3, _⟩ | ⟨_, q3⟩
     · exact absurd q3 q1
     · rcases hcase _ _ _ _ _ _ _ o2 with ⟨q4, _⟩ | ⟨_, q4⟩
       · exact absurd q4 q2
       · exact hr.apart b1 e1 b2 e2 _ _ _ _ _ _ _ _ _ _ _ r1 r2 q3 q4 hf hB
 · intro b1 e1 b2 e2 f1 bP ro1 st1 k1 c1 fk ro2 st2 k2 c2 h1 h2 o1 o2 hlt hB
   rcases hadd b1 e1 h1 with ⟨q1, r1⟩ | ⟨q1, r1⟩ <;> rcases hadd b2 e2 h2 with ⟨q2, r2⟩ | ⟨q2, r2⟩
   · omega
   · have := hr.lt b2 e2 r2; omega
   · have := hr.gG b1 e1 r1; subst r2; omega
   · rcases hcase _ _ _ _ _ _ _ o1 with ⟨q3, _⟩ | ⟨_, q3⟩
     · exact absurd q3 q1
     · rcases hcase _ _ _ _ _ _ _ o2 with ⟨q4, _⟩ | ⟨_, q4⟩
       · exact absurd q4 q2
       · exact hr.link b1 e1 b2 e2 _ _ _ _ _ _ _ _ _ _ _ r1 r2 q3 q4 hlt hB
 · intro b bP ro1 f1 m k1 c1 ho
   rcases hcase _ _ _ _ _ _ _ ho with ⟨_, _, _, _, q, _⟩ | ⟨_, q⟩
   · cases q
   · obtain ⟨q1, cj, ro3, st3, k3, c3, q2⟩ := hr.wf b _ _ _ _ _ _ q
     exact ⟨by omega, cj, ro3, st3, k3, c3, by rw [hnew, if_neg (by omega)]; exact q2⟩
 · intro b bP ro1 f1 st1 k1 c1 ho
   rcases hcase _ _ _ _ _ _ _ ho with ⟨q1, _, _, q2, _⟩ | ⟨_, q⟩
   · omega
   · exact hr.jw b _ _ _ _ _ _ q
 · intro y z f1 bP ro1 st1 k1 c1 fk ro2 k2 c2 o1 o2 hor
   rcases hcase _ _ _ _ _ _ _ o1 with ⟨q1, _, _, q2, _⟩ | ⟨q1, q2⟩ <;> rcases hcase _ _ _ _ _ _ _ o2 with ⟨q3, _, _, q4, _⟩ | ⟨q3, q4⟩
   · omega
   · have := hr.jw z _ _ _ _ _ _ q4; omega
   · omega
   · exact hr.uniq y z _ _ _ _ _ _ _ _ _ _ q2 q4 hor
 · intro b hb
   rw [hnew, if_neg (by omega)]; exact hr.out b (by omega)
 · intro b e bP ro1 f1 st1 k1 c1 hb hmp ho
   rcases hadd b e hb with ⟨rfl, rfl⟩ | ⟨hne, hb⟩
   · rcases hcase _ _ _ _ _ _ _ ho with ⟨_, rfl, rfl, rfl, rfl, rfl, rfl⟩ | ⟨q, _⟩
     · refine ⟨fun b' e' hb' hB => ?_, (hmap hmp).mono (Lay.ju hn)⟩
       rcases hadd b' e' hb' with ⟨q, _⟩ | ⟨_, q⟩
       · exact q
       · have := hr.gG b' e' q; omega
     · omega
   · rcases hcase _ _ _ _ _ _ _ ho with ⟨q, _⟩ | ⟨_, q⟩
     · exact absurd q hne
     · obtain ⟨q2, q3⟩ := hr.maps b e _ _ _ _ _ _ hb hmp q
       have hbl := hr.gG b e hb
       refine ⟨fun b' e' hb' hB => ?_, (q3.world (hT.block _ hbl fun _ => id)).mono (Lay.ju hn)⟩
       rcases hadd b' e' hb' with ⟨_, q⟩ | ⟨_, q⟩
       · subst q; omega
       · exact q2 b' e' q hB
 · intro b hb
   unfold Lay.add; rw [if_neg (by omega)]
 · intro b e hb hbe
   rcases hadd b e hbe with ⟨_, rfl⟩ | ⟨_, hbe⟩
   · exact .inl hblk.1
   · have := hr.lt b e hbe; omega
 · intro b bP ro1 f1 st1 k1 c1 hb ho
   rcases hcase _ _ _ _ _ _ _ ho with ⟨q1, _, _, q2, _⟩ | ⟨q, _⟩
   · left; omega
   · omega
 · intro b h1 h2
   exact ⟨en, by unfold Lay.add; rw [if_pos (by omega)]⟩
 · intro b hb
   rw [hnew, if_neg (by omega)]; exact lu.refl _
theorem vD (hr : bn base ι h w) (hbase : base ≤ w.heap.size) {w' : World} (hT : eJ w w' fun _ _ => False) {en : Ext} {sz : Nat} {cn : List Value}
  (hblk : w.heap.size ≤ en.block ∧ en.block < w'.heap.size) (hsz : en.sz = sz) (hcap : cn.length ≤ en.cap) (hcell : ∀ x ∈ cn, cI x = true)
  (hval : ∀ (i : Nat) v, cn[i]? = some v → ∃ v', w'.cell? ⟨en.block, en.off + i, none⟩ = some v' ∧ aP ι v v')
  (hroom : ∀ i, i < en.cap → (∃ v, w'.cell? ⟨en.block, en.off + i, none⟩ = some v) ∧ w'.frozen? ⟨en.block, en.off + i, none⟩ = false) (hmap : en.mp = true → lU ι w' en.block cn := by intro q; cases q) :
  bn base (ι.add h.n en) (h.new (.cells sz false h.n none 0 cn)) w' ∧ dE ι h (h.new (.cells sz false h.n none 0 cn)) w w' ∧ bw base ι (ι.add h.n en) h (h.new (.cells sz false h.n none 0 cn)) w  :=
 pJ hr hbase hT hblk hsz (fun _ => hcap) (fun _ => hcell) (fun _ => hval) hroom hmap
theorem qg (hr : bn base ι h w) (hbase : base ≤ w.heap.size) {b : Nat} {e : Ext} {sz f k : Nat} {c cn : List Value} (hb : ι b = some e) (hmpb : e.mp = false) (ho : h.o b = .cells sz false f none k c) {w' : World}
  (hT : eJ w w' fun B o => B = e.block ∧ e.off + c.length ≤ o ∧ o < e.off + e.cap) {en : Ext}
  (hpl : (w.heap.size ≤ en.block ∧ en.block < w'.heap.size) ∨ (en.block = e.block ∧ e.off ≤ en.off ∧ en.off + en.cap ≤ e.off + e.cap ∧ e.off + c.length ≤ en.off + cn.length)) (hsz : en.sz = sz) (hcap : cn.length ≤ en.cap)
  (hcell : ∀ x ∈ cn, cI x = true) (hval : ∀ (i : Nat) v, cn[i]? = some v → ∃ v', w'.cell? ⟨en.block, en.off + i, none⟩ = some v' ∧ aP ι v v')
  (hroom : ∀ i, i < en.cap → (∃ v, w'.cell? ⟨en.block, en.off + i, none⟩ = some v) ∧ w'.frozen? ⟨en.block, en.off + i, none⟩ = false) (hmpn : en.mp = false := by rfl) :
  bn base (ι.add h.n en) ((h.set b (.cells sz false f (some h.n) k c)).new (.cells sz false f none 0 cn)) w' ∧
   dE ι h ((h.set b (.cells sz false f (some h.n) k c)).new (.cells sz false f none 0 cn)) w w' ∧
   bw base ι (ι.add h.n en) h ((h.set b (.cells sz false f (some h.n) k c)).new (.cells sz false f none 0 cn)) w := by
 have hn := hr.none (Nat.le_refl h.n)
 have hbn : b < h.n := hr.lt b e hb
 obtain ⟨hesz, hecap0, hebase, hecell⟩ := hr.na b e _ _ _ _ _ _ hb ho
 have hecap := hecap0 hmpb
 have hfb := hr.jw b _ _ _ _ _ _ ho
 generalize hh' : (h.set b (.cells sz false f (some h.n) k c)).new (.cells sz false f none 0 cn) = h'
 have hnew : ∀ y, h'.o y = if y = h.n then .cells sz false f none 0 cn else if y = b then .cells sz false f (some h.n) k c else h.o y := fun y => by rw [← hh']; rfl
 have hn' : h'.n = h.n + 1 := by rw [← hh']; rfl
 have hadd : ∀ y ey, ι.add h.n en y = some ey → (y = h.n ∧ ey = en) ∨ (y ≠ h.n ∧ ι y = some ey) := by
  intro y ey hy
  unfold Lay.add at hy
  split at hy
  · rename_i hh; exact .inl ⟨hh, (Option.some.inj hy).symm⟩
  · rename_i hh; exact .inr ⟨hh, hy⟩
 have hlive : ∀ b bP ro1 f1 st1 k1 c1, h.o b = .cells bP ro1 f1 st1 k1 c1 → b < h.n := by
  intro b bP ro1 f1 st1 k1 c1 hb
  rcases Nat.lt_or_ge b h.n with q | q
  · exact q
  · rw [hr.out b q] at hb; cases hb
 have hcase : ∀ y bP ro1 f1 st1 k1 c1, h'.o y = .cells bP ro1 f1 st1 k1 c1 → (y = h.n ∧ bP = sz ∧ ro1 = false ∧ f1 = f ∧ st1 = none ∧ k1 = 0 ∧ c1 = cn) ∨
   (y < h.n ∧ ∃ st0, h.o y = .cells bP ro1 f1 st0 k1 c1 ∧ ((y = b ∧ st1 = some h.n) ∨ (y ≠ b ∧ st0 = st1))) := by
  intro y bP ro1 f1 st1 k1 c1 hoy
  rw [hnew] at hoy
  split at hoy
  · rename_i e1
    injection hoy with e2 e3 e4 e5 e6 e7
    exact .inl ⟨e1, e2.symm, e3.symm, e4.symm, e5.symm, e6.symm, e7.symm⟩
  · split at hoy
    · rename_i e1; subst e1
      injection hoy with e2 e3 e4 e5 e6 e7
      subst e2 e3 e4 e5 e6 e7
      exact .inr ⟨hbn, none, ho, .inl ⟨rfl, rfl⟩⟩
    · rename_i e1
      exact .inr ⟨hlive y _ _ _ _ _ _ hoy, st1, hoy, .inr ⟨e1, rfl⟩⟩
 have hrdb : h.rd b = some c := by unfold ai.rd; rw [ho]
 have hrdb' : h'.rd b = some c := by
  unfold ai.rd
  rw [hnew, if_neg (by omega), if_pos rfl]
  simp only
  rw [hnew, if_pos rfl]
  rfl
 have hrd : ∀ y ey cy, y < h.n → ι y = some ey → h'.rd y = some cy → h.rd y = some cy ∧ (y ≠ b → ey.block = e.block → ey.off + ey.cap ≤ e.off ∨ e.off + e.cap ≤ ey.off) := by
  intro y ey cy hy hye hc
  by_cases hyb : y = b
  · subst hyb
    rw [hrdb'] at hc
    exact ⟨by rw [hrdb, hc], fun q => absurd rfl q⟩
  · have key : ∀ bP ro1 f1 st1 k1 c1, h.o y = .cells bP ro1 f1 st1 k1 c1 → f1 ≠ f → (y ≠ b → ey.block = e.block → ey.off + ey.cap ≤ e.off ∨ e.off + e.cap ≤ ey.off) :=
      fun bP ro1 f1 st1 k1 c1 q1 q2 _ => hr.apart y ey b e _ _ _ _ _ _ _ _ _ _ _ hye hb q1 ho q2
    rcases iM hc with ⟨bP, ro1, f1, k1, q1⟩ | ⟨bP, ro1, f1, m, k1, fk, ro2, f2, c2, q1, q2⟩
    · rw [hnew, if_neg (by omega), if_neg hyb] at q1
      refine ⟨by unfold ai.rd; rw [q1], key _ _ _ _ _ _ q1 fun e1 => ?_⟩
      subst e1
      have := hr.uniq y b _ _ _ _ _ _ _ _ _ _ q1 ho (.inl rfl)
      have := hr.uniq b y _ _ _ _ _ _ _ _ _ _ ho q1 (.inr ⟨rfl, rfl⟩)
      omega
    · rw [hnew, if_neg (by omega), if_neg hyb] at q1
      obtain ⟨hm, cj, ro3, st3, k3, c3, q3⟩ := hr.wf y _ _ _ _ _ _ q1
      have hmb : m ≠ b := by
       intro e1
       rw [hnew, if_neg (by omega), if_pos e1] at q2
       cases q2
      rw [hnew, if_neg (by omega), if_neg hmb] at q2
      refine ⟨by unfold ai.rd; rw [q1]; simp only; rw [q2]; rfl, key _ _ _ _ _ _ q1 fun e1 => ?_⟩
      subst e1
      rw [q2] at q3
      injection q3 with _ _ q3
      subst q3
      have := hr.uniq m b _ _ _ _ _ _ _ _ _ _ q2 ho (.inl rfl)
      have := hr.uniq b m _ _ _ _ _ _ _ _ _ _ ho q2 (.inr ⟨rfl, rfl⟩)
      omega
 refine ⟨⟨?_, ?_, ?_, ?_, ?_, ?_, ?_, ?_, ?_, ?_, ?_, ?_⟩, ⟨hT.os, hT.tape, hT.output, hT.size, ?_, ?_, hT.there⟩, ⟨?_, ?_, ?_, ?_, ?_, by omega⟩⟩
 · intro y ey hy
   rcases hadd y ey hy with ⟨rfl, _⟩ | ⟨_, hy⟩
   · omega
   · have := hr.lt y ey hy; omega
 · intro y ey hy
   have h0 := hr.gG b e hb
   rcases hadd y ey hy with ⟨_, rfl⟩ | ⟨_, hy⟩
   · rcases hpl with hpl | hpl
     · exact hpl.2
     · rw [hpl.1]; exact Nat.lt_of_lt_of_le h0 hT.size
   · exact Nat.lt_of_lt_of_le (hr.gG y ey hy) hT.size
 · intro y ey bP ro1 f1 st1 k1 c1 hy hoy
   rcases hadd y ey hy with ⟨rfl, rfl⟩ | ⟨hne, hy⟩
   · rcases hcase _ _ _ _ _ _ _ hoy with ⟨_, rfl, rfl, rfl, rfl, rfl, rfl⟩ | ⟨q, _⟩
     · refine ⟨hsz, fun _ => hcap, fun _ => ?_, fun _ => hcell⟩
       rcases hpl with hpl | hpl
       · exact Nat.le_trans hbase hpl.1
       · rw [hpl.1]; exact hebase rfl
     · omega
   · rcases hcase _ _ _ _ _ _ _ hoy with ⟨q, _⟩ | ⟨_, st0, q, _⟩
     · exact absurd q hne
     · exact hr.na y ey _ _ _ _ _ _ hy q
 · intro y ey cy i v hy hmpy hc hi
   rcases hadd y ey hy with ⟨rfl, rfl⟩ | ⟨hne, hy⟩
   · have : h'.rd h.n = some cn := by unfold ai.rd; rw [hnew, if_pos rfl]
     rw [this] at hc
     injection hc with hc; subst hc
     obtain ⟨v', h1, h2⟩ := hval i v hi
     exact ⟨v', h1, h2.mono (Lay.ju hn)⟩
   · have hlt := hr.lt y ey hy
     obtain ⟨h1, hap⟩ := hrd y ey cy hlt hy hc
     obtain ⟨v', h2, h3⟩ := hr.val y ey cy i v hy hmpy h1 hi
     have hil := (List.getElem?_eq_some_iff.1 hi).1
     refine ⟨v', hT.cell _ _ _ h2 ?_, h3.mono (Lay.ju hn)⟩
     rintro ⟨q1, q2, q3⟩
     by_cases hyb : y = b
     · subst hyb
       obtain rfl := Option.some.inj (hb.symm.trans hy)
       rw [hrdb] at h1
       injection h1 with h1; subst h1
       omega
     · have h4 := (hr.yF hy hmpy h1).2
       rcases hap hyb q1 with h5 | h5 <;> omega
 · intro y ey bP f1 st1 k1 c1 i hy hoy hi
   rcases hadd y ey hy with ⟨rfl, rfl⟩ | ⟨hne, hy⟩
   · exact hroom i hi
   · rcases hcase _ _ _ _ _ _ _ hoy with ⟨q, _⟩ | ⟨_, st0, q, _⟩
     · exact absurd q hne
     · obtain ⟨⟨v, hv⟩, hf⟩ := hr.room y ey _ _ _ _ _ i hy q hi
       obtain ⟨h1, h2⟩ := hT.there _ _ _ hv
       exact ⟨h1, by rw [h2]; exact hf⟩
 · intro b1 e1 b2 e2 bP ro1 f1 st1 k1 c1 fk f2 st2 k2 c2 h1 h2 o1 o2 hf hB
   have h0 := hr.gG b e hb
   rcases hadd b1 e1 h1 with ⟨q1, r1⟩ | ⟨q1, r1⟩ <;> rcases hadd b2 e2 h2 with ⟨q2, r2⟩ | ⟨q2, r2⟩
   · rcases hcase _ _ _ _ _ _ _ o1 with ⟨_, _, _, q3, _⟩ | ⟨q3, _⟩
     · rcases hcase _ _ _ _ _ _ _ o2 with ⟨_, _, _, q4, _⟩ | ⟨q4, _⟩
       · omega
       · omega
     · omega
   · have hb2 := hr.gG b2 e2 r2
     rcases hcase _ _ _ _ _ _ _ o1 with ⟨_, _, _, q3, _⟩ | ⟨q3, _⟩
     · rcases hcase _ _ _ _ _ _ _ o2 with ⟨q4, _⟩ | ⟨_, st0, q4, _⟩
       · omega
       · rcases hpl with hpl | hpl
         · subst r1; omega
         · subst r1
           have := hr.apart b e b2 e2 _ _ _ _ _ _ _ _ _ _ _ hb r2 ho q4 (by omega) (by omega)
           omega
     · omega
   · have hb1 := hr.gG b1 e1 r1
     rcases hcase _ _ _ _ _ _ _ o2 with ⟨_, _, _, q3, _⟩ | ⟨q3, _⟩
     · rcases hcase _ _ _ _ _ _ _ o1 with ⟨q4, _⟩ | ⟨_, st0, q4, _⟩
       · omega
       · rcases hpl with hpl | hpl
         · subst r2; omega
         · subst r2
           have := hr.apart b1 e1 b e _ _ _ _ _ _ _ _ _ _ _ r1 hb q4 ho (by omega) (by omega)
           omega
     · omega
   · rcases hcase _ _ _ _ _ _ _ o1 with ⟨q3, _⟩ | ⟨_, st3, q3, _⟩
     · exact absurd q3 q1
     · rcases hcase _ _ _ _ _ _ _ o2 with ⟨q4, _⟩ | ⟨_, st4, q4, _⟩
       · exact absurd q4 q2
       · exact hr.apart b1 e1 b2 e2 _ _ _ _ _ _ _ _ _ _ _ r1 r2 q3 q4 hf hB
 · intro b1 e1 b2 e2 f1 bP ro1 st1 k1 c1 fk ro2 st2 k2 c2 h1 h2 o1 o2 hlt hB
   have h0 := hr.gG b e hb
   rcases hadd b1 e1 h1 with ⟨q1, r1⟩ | ⟨q1, r1⟩ <;> rcases hadd b2 e2 h2 with ⟨q2, r2⟩ | ⟨q2, r2⟩
   · omega
   · have := hr.lt b2 e2 r2; omega
   · have hb1 := hr.gG b1 e1 r1
     rcases hpl with hpl | hpl
     · subst r2; omega
     · subst r2
       rcases hcase _ _ _ _ _ _ _ o2 with ⟨_, _, _, q3, _, _, q5⟩ | ⟨q3, _⟩
       · subst q5
         rcases hcase _ _ _ _ _ _ _ o1 with ⟨q4, _⟩ | ⟨_, st0, q4, _⟩
         · omega
         · rw [q3] at q4
           have hle := hr.uniq b1 b _ _ _ _ _ _ _ _ _ _ q4 ho (.inl rfl)
           rcases Nat.lt_or_ge b1 b with hl | hl
           · have := hr.link b1 e1 b e _ _ _ _ _ _ _ _ _ _ _ r1 hb q4 ho hl (by omega)
             omega
           · obtain rfl : b1 = b := by omega
             obtain rfl := Option.some.inj (hb.symm.trans r1)
             rw [ho] at q4
             injection q4 with _ _ _ _ _ q4
             subst q4
             omega
       · omega
   · rcases hcase _ _ _ _ _ _ _ o1 with ⟨q3, _⟩ | ⟨_, st3, q3, _⟩
     · exact absurd q3 q1
     · rcases hcase _ _ _ _ _ _ _ o2 with ⟨q4, _⟩ | ⟨_, st4, q4, _⟩
       · exact absurd q4 q2
       · exact hr.link b1 e1 b2 e2 _ _ _ _ _ _ _ _ _ _ _ r1 r2 q3 q4 hlt hB
 · intro y bP ro1 f1 m k1 c1 hoy
   rcases hcase _ _ _ _ _ _ _ hoy with ⟨_, _, _, _, q, _⟩ | ⟨q0, st0, q, ⟨r1, r2⟩ | ⟨r1, r2⟩⟩
   · cases q
   · injection r2 with r2
     subst r1 r2
     rw [ho] at q
     injection q with _ _ q
     subst q
     exact ⟨by omega, _, _, _, _, _, by rw [hnew, if_pos rfl]⟩
   · subst r2
     obtain ⟨q1, cj, ro3, st3, k3, c3, q2⟩ := hr.wf y _ _ _ _ _ _ q
     refine ⟨by omega, ?_⟩
     rw [hnew, if_neg (by omega)]
     split
     · rename_i e1; subst e1
       rw [ho] at q2
       injection q2 with _ _ q2
       subst q2
       exact ⟨_, _, _, _, _, rfl⟩
     · exact ⟨_, _, _, _, _, q2⟩
 · intro y bP ro1 f1 st1 k1 c1 hoy
   rcases hcase _ _ _ _ _ _ _ hoy with ⟨q1, _, _, q2, _⟩ | ⟨_, st0, q, _⟩
   · omega
   · exact hr.jw y _ _ _ _ _ _ q
 · intro y z f1 bP ro1 st1 k1 c1 fk ro2 k2 c2 o1 o2 hor
   rcases hcase _ _ _ _ _ _ _ o2 with ⟨q3, _⟩ | ⟨q3, st0, q4, ⟨_, q5⟩ | ⟨q5, q6⟩⟩
   · rcases hcase _ _ _ _ _ _ _ o1 with ⟨q1, _⟩ | ⟨q1, _⟩ <;> omega
   · cases q5
   · subst q6
     rcases hcase _ _ _ _ _ _ _ o1 with ⟨q1, _, _, q2, _⟩ | ⟨q1, st1', q2, q7⟩
     · exfalso
       subst q2
       have := hr.uniq b z _ _ _ _ _ _ _ _ _ _ ho q4 (.inr ⟨rfl, rfl⟩)
       have := hr.uniq z b _ _ _ _ _ _ _ _ _ _ q4 ho (.inl rfl)
       omega
     · exact hr.uniq y z _ _ _ _ _ _ _ _ _ _ q2 q4 (hor.imp id fun ⟨p1, p2⟩ => ⟨p1, by
         rcases q7 with ⟨_, q⟩ | ⟨_, q⟩
         · rw [q] at p2; cases p2
         · rw [q]; exact p2⟩)
 · intro y hy
   rw [hnew, if_neg (by omega), if_neg (by omega)]; exact hr.out y (by omega)
 · intro y ey bP ro1 f1 st1 k1 c1 hy hmpy hoy
   rcases hadd y ey hy with ⟨rfl, rfl⟩ | ⟨hne, hy⟩
   · rw [hmpn] at hmpy; cases hmpy
   · have hyb : y ≠ b := fun q => by subst q; obtain rfl := Option.some.inj (hb.symm.trans hy); rw [hmpb] at hmpy; cases hmpy
     rw [hnew, if_neg hne, if_neg hyb] at hoy
     obtain ⟨q2, q3⟩ := hr.maps y ey _ _ _ _ _ _ hy hmpy hoy
     have hbl := hr.gG y ey hy
     have hne2 : e.block ≠ ey.block := fun q => hyb (q2 b e hb q).symm
     refine ⟨fun b' e' hb' hB => ?_, (q3.world (hT.block _ hbl fun o ⟨q, _⟩ => hne2 q.symm)).mono (Lay.ju hn)⟩
     rcases hadd b' e' hb' with ⟨_, q⟩ | ⟨_, q⟩
     · subst q
       rcases hpl with hpl | hpl
       · omega
       · exact absurd (hpl.1.symm.trans hB) hne2
     · exact q2 b' e' q hB
 · intro B hB hall
   refine hT.block B hB ?_
   rintro o ⟨rfl, _⟩
   rcases hall b e hb rfl with this | ⟨h1, _⟩
   · rw [hnew, if_neg (by omega), if_pos rfl, ho] at this
     cases this
   · rw [hmpb] at h1; cases h1
 · intro B o v hc hall
   refine hT.cell B o v hc ?_
   rintro ⟨rfl, q2, q3⟩
   rcases hall b e hb rfl (by omega) (by omega) with h1 | ⟨_, _, _, _, c1, _, h1, _, h2⟩
   · rw [hnew, if_neg (by omega), if_pos rfl, ho] at h1; cases h1
   · rw [ho] at h1
     injection h1 with _ _ _ _ _ h1
     subst h1
     omega
 · intro y hy
   unfold Lay.add; rw [if_neg (by omega)]
 · intro y ey hy hye
   rcases hadd y ey hye with ⟨q, rfl⟩ | ⟨_, hye⟩
   · rcases hpl with hpl | hpl
     · exact .inl hpl.1
     · refine .inr ⟨b, e, _, _, _, _, _, _, hb, ?_, hpl.1, hpl.2.1, hpl.2.2.1, ho, _, _, _, _, _, by rw [hnew, if_pos q]⟩
       rw [hnew, if_neg (by omega), if_pos rfl, ho]
       intro hh; cases hh
   · have := hr.lt y ey hye; omega
 · intro y bP ro1 f1 st1 k1 c1 hy hoy
   rcases hcase _ _ _ _ _ _ _ hoy with ⟨_, _, _, q, _⟩ | ⟨q, _⟩
   · subst q
     refine .inr ⟨b, e, _, _, _, _, _, hb, ho, ?_⟩
     rw [hnew, if_neg (by omega), if_pos rfl, ho]
     intro hh; cases hh
   · omega
 · intro y h1 h2
   exact ⟨en, by unfold Lay.add; rw [if_pos (by omega)]⟩
 · intro y hy
   rw [hnew, if_neg (by omega)]
   split
   · rename_i hyb; subst hyb
     rw [ho]
     exact ⟨false, some h.n, k, c, rfl, id, Nat.le_refl _, fun _ => rfl, fun m e1 => by cases e1⟩
   · exact lu.refl _
end Go.Proofs.YthekokdpplobhaaGreat.Eng
set_option linter.unusedVariables false
set_option linter.unusedSimpArgs false
namespace Go.Proofs.YthekokdpplobhaaGreat.Eng
variable {P : Program} {base : Nat} {ι : Lay} {h h' : ai} {w : World}
theorem aP.kL {b o : Nat} {v' : Value} (r : aP ι (.pointer (some ⟨b, o, none⟩)) v') : ∃ e, ι b = some e ∧ e.mp = false ∧ v' = .pointer (some ⟨e.block, e.off + o, none⟩) := by
 cases r with
 | atom h => simp [aX] at h
 | ptr h h0 => exact ⟨_, h, h0, rfl⟩
theorem aP.kq {b o l c : Nat} {v' : Value} (r : aP ι (.slice (some ⟨b, o, none⟩) l c) v') :
  ∃ e, ι b = some e ∧ e.mp = false ∧ ((∃ c', v' = .slice (some ⟨e.block, e.off + o, none⟩) l c' ∧ l ≤ c' ∧ o + c' * e.sz ≤ e.cap) ∨ (∃ A, v' = .slice (some A) 0 0 ∧ l = 0)) := by
 cases r with
 | atom h => simp [aX] at h
 | slice h h0 h1 h2 => exact ⟨_, h, h0, .inl ⟨_, rfl, h1, h2⟩⟩
 | eu h h0 => exact ⟨_, h, h0, .inr ⟨_, rfl, rfl⟩⟩
theorem aP.cells {v v' : Value} (hvv : aP ι v v') : v'.cells.size = v.cells.size ∧ ∀ (i : Nat) x x', v.cells[i]? = some x → v'.cells[i]? = some x' → aP ι x x' := by
 have one : ∀ {x x' : Value}, aP ι x x' → (∀ (i : Nat) y y', (#[x] : Array Value)[i]? = some y → (#[x'] : Array Value)[i]? = some y' → aP ι y y') := by
  intro x x' hx i y y' hy hy'
  cases i with
  | zero => simp at hy hy'; subst hy hy'; exact hx
  | succ i => simp at hy
 cases hvv with
 | agg h1 h2 => exact ⟨h1.symm, h2⟩
 | atom h1 =>
  have hc1 : v.cells = #[v] := by cases v <;> first | rfl | (simp [aX] at h1; done)
  rw [hc1]; exact ⟨rfl, one (.atom h1)⟩
 | ptr h1 h2 => exact ⟨rfl, one (.ptr h1 h2)⟩
 | map h1 h2 => exact ⟨rfl, one (.map h1 h2)⟩
 | slice h1 h0 h2 h3 => exact ⟨rfl, one (.slice h1 h0 h2 h3)⟩
 | eu h1 h2 => exact ⟨rfl, one (.eu h1 h2)⟩
 | tuple h1 h2 => exact ⟨rfl, one (.tuple h1 h2)⟩
 | func h1 h2 h3 h4 => exact ⟨rfl, one (.func h1 h2 h3 h4)⟩
 | iface h1 => exact ⟨rfl, one (.iface h1)⟩
 | wI h1 => exact ⟨rfl, one (.wI h1)⟩
def fS (ι : Lay) (xs ys : Array Value) : Prop := ys.size = xs.size ∧ ∀ (i : Nat) x y, xs[i]? = some x → ys[i]? = some y → aP ι x y
theorem fS.map {f g : Operand → Value} {xs : Array Operand} (hf : ∀ x ∈ xs, aP ι (f x) (g x)) : fS ι (xs.map f) (xs.map g) := by
 refine ⟨by simp, fun i x y hx hy => ?_⟩
 simp only [Array.getElem?_map] at hx hy
 cases ho : xs[i]? with
 | none => rw [ho] at hx; cases hx
 | some o =>
  rw [ho] at hx hy
  simp only [Option.map_some, Option.some.injEq] at hx hy
  subst hx hy
  exact hf o (Array.mem_of_getElem? ho)
theorem fS.plain {xs : Array Value} (h : xs.all aX = true) : fS ι xs xs :=
 ⟨rfl, fun i x y hx hy => by
  obtain rfl := Option.some.inj (hx.symm.trans hy)
  exact .atom (Array.all_eq_true_iff_forall_mem.1 h x (Array.mem_of_getElem? hx))⟩
theorem uz {cs : List Value} : ∀ (n off : Nat) (a : Array Value) (hle : off + n + cs.length ≤ a.size), 
  let r := (cs.zipIdx n).foldl (fun (a : Array Value) (p : Value × Nat) => a.setIfInBounds (off + p.2) p.1) a
  r.size = a.size ∧ ∀ i, r[i]? = if off + n ≤ i ∧ i < off + n + cs.length then cs[i - (off + n)]? else a[i]? := by
 induction cs with
 | nil => intro n off a _; exact ⟨rfl, fun i => by rw [if_neg (by simp)]; rfl⟩
 | cons c cs ih =>
  intro n off a hle
  simp only [List.length_cons] at hle
  obtain ⟨h1, h2⟩ := ih (n + 1) off (a.setIfInBounds (off + n) c) (by simp; omega)
  simp only [List.zipIdx_cons, List.foldl_cons]
  refine ⟨by rw [h1]; simp, fun i => ?_⟩
  rw [h2 i]
  simp only [List.length_cons, Array.getElem?_setIfInBounds]
  by_cases e0 : i = off + n
  · subst e0
    rw [if_neg (by omega), if_pos rfl, if_pos (by omega), if_pos ⟨Nat.le_refl _, by omega⟩]
    simp
  · by_cases hin : off + (n + 1) ≤ i ∧ i < off + (n + 1) + cs.length
    · rw [if_pos hin, if_pos (by omega), show i - (off + n) = (i - (off + (n + 1))) + 1 by omega]
      simp
    · rw [if_neg hin, if_neg (fun e => e0 e.symm), if_neg (by omega)]
theorem mA (cs : Array Value) (off : Nat) (a : Array Value) (hle : off + cs.size ≤ a.size) :
  (cs.zipIdx.foldl (fun a (p : Value × Nat) => a.setIfInBounds (off + p.2) p.1) a).size = a.size ∧
  ∀ i, (cs.zipIdx.foldl (fun a (p : Value × Nat) => a.setIfInBounds (off + p.2) p.1) a)[i]? = if off ≤ i ∧ i < off + cs.size then cs[i - off]? else a[i]? := by
 have := uz (cs := cs.toList) 0 off a (by simpa using hle)
 simp only [Nat.add_zero] at this
 have e : cs.zipIdx.foldl (fun a (p : Value × Nat) => a.setIfInBounds (off + p.2) p.1) a = (cs.toList.zipIdx 0).foldl (fun a (p : Value × Nat) => a.setIfInBounds (off + p.2) p.1) a := by
  rw [← Array.foldl_toList, Array.toList_zipIdx]
 rw [e]
 exact ⟨this.1, fun i => by rw [this.2 i]; simp⟩
theorem qB {place placeL : Nat → Option (Nat × Nat)} (hpl : ∀ i x, placeL i = some x → place i = some x) : ∀ (parts parts' : List (Nat × Value)) (cells cells' : Array Value) (r : List Value), fS ι cells cells' →
  parts'.length = parts.length → (∀ (i : Nat) p p', parts[i]? = some p → parts'[i]? = some p' → p'.1 = p.1 ∧ aP ι p.2 p'.2) →
  nE placeL cells.toList parts = some r → ∃ r', Instr.fill place cells' parts' = some r' ∧ fS ι r.toArray r' := by
 intro parts
 induction parts with
 | nil =>
  intro parts' cells cells' r hc hl _ hr
  obtain rfl := List.length_eq_zero_iff.1 hl
  simp only [nE, Option.some.injEq] at hr
  subst hr
  exact ⟨cells', rfl, hc⟩
 | cons p ps ih =>
  intro parts' cells cells' r hc hl hp hr
  cases parts' with
  | nil => simp at hl
  | cons p' ps' =>
   obtain ⟨i, v⟩ := p
   obtain ⟨i', v'⟩ := p'
   obtain ⟨h1, h2⟩ := hp 0 _ _ rfl rfl
   simp only at h1 h2
   subst h1
   simp only [nE] at hr
   split at hr
   · cases hr
   rename_i off size hpi
   obtain ⟨hn, hcs⟩ := h2.cells
   split at hr
   · rename_i hg
     obtain ⟨hg1, hg2⟩ := hg
     simp only [Instr.fill, hpl _ _ hpi]
     rw [hn, hc.1]
     have hle : off + v.cells.size ≤ cells.size := by simp at hg2; omega
     rw [if_neg (by simp only [ne_eq, Bool.or_eq_true, decide_eq_true_eq, not_or]; omega)]
     obtain ⟨s1, g1⟩ := mA v.cells off cells hle
     obtain ⟨s2, g2⟩ := mA v'.cells off cells' (by rw [hn, hc.1]; exact hle)
     have hsp : (v.cells.zipIdx.foldl (fun a (p : Value × Nat) => a.setIfInBounds (off + p.2) p.1) cells).toList = dj cells.toList off v.cells.toList := by
      apply List.ext_getElem?
      intro j
      rw [gK (by simpa using hle)]
      have := g1 j
      simp only [Array.getElem?_toList, Array.length_toList]
      exact this
     rw [← hsp] at hr
     refine ih ps' _ _ r ⟨?_, fun j x y hx hy => ?_⟩ (by simpa using hl) (fun j q q' hq hq' => hp (j + 1) q q' (by simpa using hq) (by simpa using hq')) hr
     · show (v'.cells.zipIdx.foldl (fun a (p : Value × Nat) => a.setIfInBounds (off + p.2) p.1) cells').size = (v.cells.zipIdx.foldl (fun a (p : Value × Nat) => a.setIfInBounds (off + p.2) p.1) cells).size
       rw [s1, s2, hc.1]
     · have hx' : (v.cells.zipIdx.foldl (fun a (p : Value × Nat) => a.setIfInBounds (off + p.2) p.1) cells)[j]? = some x := hx
       have hy' : (v'.cells.zipIdx.foldl (fun a (p : Value × Nat) => a.setIfInBounds (off + p.2) p.1) cells')[j]? = some y := hy
       rw [g1] at hx'
       rw [g2, hn] at hy'
       split at hx'
       · rename_i hin; rw [if_pos hin] at hy'; exact hcs _ _ _ hx' hy'
       · rename_i hin; rw [if_neg hin] at hy'; exact hc.2 _ _ _ hx' hy'
   · cases hr
theorem run_places : ∀ (fields : List Field) (pl : List (Nat × Nat)), (fields.mapM fun f => (cR P f.type).map (f.offset, ·)) = some pl →
  (fields.mapM (m := Sem) fun f => do pure (f.offset, ← sizeOf f.type)).run P w = .ok pl w := by
 intro fields
 induction fields with
 | nil => intro pl h; simp at h; subst h; rfl
 | cons f fs ih =>
  intro pl h
  rw [List.mapM_cons] at h ⊢
  cases hs : cR P f.type with
  | none => rw [hs] at h; simp at h
  | some n =>
   rw [hs] at h
   cases hm : fs.mapM fun f => (cR P f.type).map (f.offset, ·) with
   | none => rw [hm] at h; simp at h
   | some pl' =>
    rw [hm] at h
    simp at h
    subst h
    simp only [Sem.run_bind, cP hs, Result.andThen_ok, Sem.run_pure, ih pl' hm]
theorem u9 {t : TypeId} {parts parts' : Array (Nat × Value)} {v : Value} (hv : pG P t parts = some v) (hl : parts'.size = parts.size)
  (hp : ∀ (i : Nat) p p', parts[i]? = some p → parts'[i]? = some p' → p'.1 = p.1 ∧ aP ι p.2 p'.2) : ∃ v', (Instr.build t parts').run P w = .ok v' w ∧ aP ι v v' := by
 unfold pG at hv
 split at hv
 · rename_i z pl hz hpl
   obtain ⟨hz1, hz2⟩ := gx hz w
   have hparts : ∀ (i : Nat) p p', parts.toList[i]? = some p → parts'.toList[i]? = some p' → p'.1 = p.1 ∧ aP ι p.2 p'.2 := fun i p p' a b => hp i p p' (by simpa using a) (by simpa using b)
   cases hf : nE (pl[·]?) z.cells.toList parts.toList with
   | none => rw [hf] at hv; cases hv
   | some r =>
    rw [hf] at hv
    simp only [Option.map_some, Option.some.injEq] at hv
    subst hv
    unfold placesOf at hpl
    split at hpl
    · rename_i fields hd
      obtain ⟨r', h1, h2⟩ := qB (ι := ι) (place := fun i => (pl.toArray)[i]?) (placeL := (pl[·]?)) (fun i x hx => by simpa using hx) parts.toList parts'.toList z.cells z.cells r (fS.plain hz2) (by simpa using hl) hparts hf
      have hm : (fields.mapM (m := Sem) fun f => do pure (f.offset, ← sizeOf f.type)).run P w = .ok pl.toArray w := by
       rw [Array.mapM_eq_mapM_toList, Sem.run_map, run_places fields.toList pl hpl]; rfl
      refine ⟨.agg r', ?_, .agg h2.1.symm h2.2⟩
      unfold Instr.build
      simp only [Sem.run_bind, hz1, Result.andThen_ok, bF hd, hm]
      simp only [h1, Sem.run_pure]
    · rename_i n el hd
      cases hs : cR P el with
      | none => rw [hs] at hpl; cases hpl
      | some s =>
       rw [hs] at hpl
       simp only [Option.map_some, Option.some.injEq] at hpl
       subst hpl
       obtain ⟨r', h1, h2⟩ := qB (ι := ι) (place := fun i => some (i * s, s)) (placeL := (((List.range n).map fun i => (i * s, s))[·]?)) (fun i x hx => by
        simp only [List.getElem?_map] at hx
        cases hg : (List.range n)[i]? with
        | none => rw [hg] at hx; cases hx
        | some j =>
         rw [hg] at hx
         obtain ⟨hj1, hj2⟩ := List.getElem?_eq_some_iff.1 hg
         simp at hj2 hx
         subst hj2
         simpa using hx) parts.toList parts'.toList z.cells z.cells r (fS.plain hz2) (by simpa using hl) hparts hf
       refine ⟨.agg r', ?_, .agg h2.1.symm h2.2⟩
       unfold Instr.build
       simp only [Sem.run_bind, hz1, Result.andThen_ok, bF hd, cP hs]
       simp only [h1, Sem.run_pure]
    · cases hpl
 · cases hv
theorem wW {t : TypeId} {cs cs' : Array Value} {off : Nat} {v : Value} (hv : oX P t cs off = some v) (hc : fS ι cs cs') : ∃ v', (part t cs' off).run P w = .ok v' w ∧ aP ι v v' := by
 unfold oX at hv
 split at hv
 · rename_i ha
   cases hs : cR P t with
   | none => rw [hs] at hv; cases hv
   | some n =>
    rw [hs] at hv
    simp only [Option.map_some, Option.some.injEq] at hv
    subst hv
    refine ⟨.agg (cs'.extract off (off + n)), ?_, .agg (by simp [hc.1]) fun i x y hx hy => ?_⟩
    · simp only [part, Sem.run_bind, kA ha, Result.andThen_ok, if_true, cP hs, Sem.run_pure]
    · rw [Array.getElem?_extract] at hx hy
      rw [hc.1] at hy
      split at hx
      · rename_i hi; rw [if_pos hi] at hy; exact hc.2 _ _ _ hx hy
      · cases hx
 · rename_i ha
   obtain ⟨hi, _⟩ := Array.getElem?_eq_some_iff.1 hv
   have hi' : off < cs'.size := by rw [hc.1]; exact hi
   refine ⟨cs'[off], ?_, hc.2 off v _ hv (Array.getElem?_eq_getElem hi')⟩
   simp only [part, Sem.run_bind, kA ha, Result.andThen_ok, Bool.false_eq_true, if_false, Array.getElem?_eq_getElem hi', Sem.run_pure]
 · cases hv
theorem si {t : TypeId} {x x' v : Value} {f : Nat} (hv : lY P t x f = some v) (hx : aP ι x x') : ∃ v', (Instr.field t x' f).run P w = .ok v' w ∧ aP ι v v' := by
 unfold lY at hv
 split at hv
 · rename_i cs fields hd
   split at hv
   · rename_i g hg
     cases hx with
     | atom h => simp [aX] at h
     | agg h1 h2 =>
      rename_i ys
      obtain ⟨v', h3, h4⟩ := wW (w := w) hv (⟨h1.symm, h2⟩ : fS ι cs ys)
      refine ⟨v', ?_, h4⟩
      simp only [Instr.field, Sem.run_bind, bF hd, Result.andThen_ok, hg, asAgg, Sem.run_pure]
      exact h3
   · cases hv
 · cases hv
theorem ur {t : TypeId} {x x' v : Value} {f : Nat} (hv : ny P t x f = some v) (hx : aP ι x x') : ∃ v', (Instr.fieldAt t x' f).run P w = .ok v' w ∧ aP ι v v' := by
 unfold ny at hv
 split at hv
 · rename_i b off fields hd
   split at hv
   · rename_i g hg
     split at hv
     · rename_i n hs
       injection hv with hv; subst hv
       obtain ⟨e, he, hmp, rfl⟩ := hx.kL
       refine ⟨.pointer (some ⟨e.block, e.off + (off + g.offset), none⟩), ?_, .ptr he hmp⟩
       simp only [Instr.fieldAt, Sem.run_bind, bF hd, Result.andThen_ok, hg, Instr.sureAddr, Sem.run_pure, fieldPlace, cP hs, fR, Nat.add_assoc]
       rw [if_neg (by omega)]
       rfl
     · cases hv
   · cases hv
 · cases hv
theorem hU {t e : TypeId} (he : elemOf P t = some e) : P.underlying t = some (.slice e) := by
 unfold elemOf at he
 split at he
 · rename_i e' hu; injection he with he; subst he; exact hu
 · cases he
theorem tW {t : TypeId} {x x' i i' v : Value} (hv : oj P t x i = some v) (hx : aP ι x x') (hi : aP ι i i') : ∃ v', (Instr.indexAt t x' i').run P w = .ok v' w ∧ aP ι v v' := by
 unfold oj at hv
 split at hv
 · rename_i b off n c k j
   obtain rfl := hi.plain rfl
   cases hel : elemOf P t with
   | none => rw [hel] at hv; simp at hv
   | some el =>
    rw [hel] at hv
    simp only [Option.bind_some] at hv
    split at hv
    · rename_i sz hs
      split at hv
      · rename_i hj
        injection hv with hv; subst hv
        obtain ⟨e, he, hmp, ⟨c', rfl, h1, h2⟩ | ⟨A, rfl, rfl⟩⟩ := hx.kq
        · refine ⟨.pointer (some ⟨e.block, e.off + (off + j.toNat * sz), none⟩), ?_, .ptr he hmp⟩
          simp only [Instr.indexAt, asIntOf, Sem.run_bind, Sem.run_pure, Result.andThen_ok, bF (hU hel), hj, and_self, if_true, cP hs, fR, Nat.add_assoc]
        · exfalso; omega
      · cases hv
    · cases hv
 · cases hv
end Go.Proofs.YthekokdpplobhaaGreat.Eng
set_option linter.unusedVariables false
set_option linter.unusedSimpArgs false
namespace Go.Proofs.YthekokdpplobhaaGreat.Eng
variable {P : Program} {base : Nat} {ι : Lay} {h h' : ai} {w : World}
def vy (ι : Lay) : Option Value → Option Value → Prop
 | none, none => True
 | some v, some v' => aP ι v v'
 | _, _ => False
theorem mG {v v' : Value} {d n y : Nat} (hb : dJ (some v) d = some n) (hr : aP ι v v') (hn : n ≤ y) (code : BoundsCode) : (Instr.sliceBound v' y code).run P w = .ok n w := by
 cases v with
 | int k i =>
  obtain rfl := hr.plain rfl
  simp only [dJ] at hb
  split at hb
  · rename_i hi
    injection hb with hb; subst hb
    simp only [Instr.sliceBound, asIntOf, Sem.run_bind, Sem.run_pure, Result.andThen_ok]
    rw [if_pos ⟨hi, by omega⟩]
    rfl
  · cases hb
 | _ => simp [dJ] at hb
theorem jj {lo lo' hi hi' : Option Value} {n c l hh : Nat} (h1 : dJ lo 0 = some l) (h2 : dJ hi n = some hh) (r1 : vy ι lo lo') (r2 : vy ι hi hi') (hl : l ≤ hh) (hc : hh ≤ c) (s : Bool) :
  (Instr.sliceBounds s n c lo' hi' none).run P w = .ok (l, hh, c) w := by
 unfold Instr.sliceBounds
 have low : ∀ (x : Sem (Nat × Nat × Nat)), True := fun _ => trivial
 cases hi with
 | none =>
  cases hi' with
  | some _ => exact r2.elim
  | none =>
   simp only [dJ, Option.some.injEq] at h2; subst h2
   cases lo with
   | none =>
    cases lo' with
    | some _ => exact r1.elim
    | none => simp only [dJ, Option.some.injEq] at h1; subst h1; rfl
   | some v =>
    cases lo' with
    | none => exact r1.elim
    | some v' =>
     simp only [Sem.run_bind, Sem.run_pure, Result.andThen_ok, Option.isSome_none, Bool.false_eq_true, if_false]
     rw [mG h1 r1 hl]; rfl
 | some u =>
  cases hi' with
  | none => exact r2.elim
  | some u' =>
   simp only [Sem.run_bind, Sem.run_pure, Result.andThen_ok]
   rw [mG h2 r2 hc]
   simp only [Result.andThen_ok]
   cases lo with
   | none =>
    cases lo' with
    | some _ => exact r1.elim
    | none => simp only [dJ, Option.some.injEq] at h1; subst h1; rfl
   | some v =>
    cases lo' with
    | none => exact r1.elim
    | some v' =>
     simp only [Option.isSome_none, Bool.false_eq_true, if_false, Sem.run_bind, Sem.run_pure]
     rw [mG h1 r1 hl]; rfl
theorem vO (hr : bn base ι h w) {t : TypeId} {x x' v : Value} {lo lo' hi hi' : Option Value} (hv : jx P h t x lo hi = some v) (hx : aP ι x x') (r1 : vy ι lo lo') (r2 : vy ι hi hi') :
  ∃ v', (Instr.sliceAt t x' lo' hi' none).run P w = .ok v' w ∧ aP ι v v' := by
 unfold jx at hv
 split at hv
 · rename_i s
   obtain rfl := hx.plain rfl
   split at hv
   · rename_i l hh hu hb1 hb2
     split at hv
     · rename_i hle
       injection hv with hv; subst hv
       refine ⟨_, ?_, .atom rfl⟩
       simp only [Instr.sliceAt, Sem.run_bind, bF hu, Result.andThen_ok, Instr.slice, Option.isSome_none, Bool.false_eq_true, if_false, jj (P := P) (w := w) hb1 hb2 r1 r2 hle.1 hle.2, Sem.run_pure]
     · cases hv
   · cases hv
 · obtain rfl := hx.plain rfl
   split at hv
   · rename_i sz hsz hb1 hb2
     injection hv with hv; subst hv
     refine ⟨.slice none 0 0, ?_, .atom rfl⟩
     cases hel : elemOf P t with
     | none => rw [hel] at hsz; cases hsz
     | some el =>
      rw [hel] at hsz
      simp only [Option.bind_some] at hsz
      simp only [Instr.sliceAt, Sem.run_bind, bF (hU hel), Result.andThen_ok, Instr.slice, jj (P := P) (w := w) hb1 hb2 r1 r2 (Nat.le_refl 0) (Nat.le_refl 0), cP hsz, Sem.run_pure, if_true, Nat.sub_self]
   · cases hv
 · rename_i b off n c
   split at hv
   · rename_i sz l hh sz' ro f st k cc hsz hb1 hb2 ho
     split at hv
     · rename_i hle
       obtain ⟨hle1, hle2, rfl⟩ := hle
       injection hv with hv; subst hv
       cases hel : elemOf P t with
       | none => rw [hel] at hsz; cases hsz
       | some el =>
        rw [hel] at hsz
        simp only [Option.bind_some] at hsz
        have hu := hU hel
        obtain ⟨e, he, hmp, ⟨c', rfl, h1, h2⟩ | ⟨A, rfl, rfl⟩⟩ := hx.kq
        · have hes := (hr.na b e _ _ _ _ _ _ he ho).1
          have hrun : (Instr.sliceAt t (.slice (some ⟨e.block, e.off + off, none⟩) n c') lo' hi' none).run P w =
            .ok (.slice (if c' = l then some ⟨e.block, e.off + off, none⟩ else some ⟨e.block, e.off + off + l * sz', none⟩) (hh - l) (c' - l)) w := by
           simp only [Instr.sliceAt, Sem.run_bind, bF hu, Result.andThen_ok, Instr.slice, jj (P := P) (w := w) hb1 hb2 r1 r2 hle1 (Nat.le_trans hle2 h1), cP hsz, Sem.run_pure, Option.map_some, fR]
          refine ⟨_, hrun, ?_⟩
          by_cases hcl : c' = l
          · rw [if_pos hcl]
            have z1 : hh - l = 0 := by omega
            have z2 : c' - l = 0 := by omega
            rw [z1, z2]
            exact .eu he hmp
          · rw [if_neg hcl, Nat.add_assoc]
            refine .slice he hmp (by omega) ?_
            rw [hes] at h2 ⊢
            have : l * sz' + (c' - l) * sz' = c' * sz' := by rw [← Nat.add_mul]; congr 1; omega
            omega
        · have z1 : l = 0 := by omega
          have z2 : hh = 0 := by omega
          subst z1 z2
          have hrun : (Instr.sliceAt t (.slice (some A) 0 0) lo' hi' none).run P w = .ok (.slice (some A) 0 0) w := by
           simp only [Instr.sliceAt, Sem.run_bind, bF hu, Result.andThen_ok, Instr.slice, jj (P := P) (w := w) hb1 hb2 r1 r2 (Nat.le_refl 0) (Nat.le_refl 0), cP hsz, Sem.run_pure, if_true, Nat.sub_self]
          exact ⟨_, hrun, .eu he hmp⟩
     · cases hv
   · cases hv
 · cases hv
theorem sl (z : List Value) : ∀ (n j : Nat), (gJ z n)[j]? = if j < n * z.length then z[j % z.length]? else none := by
 intro n
 induction n with
 | zero => intro j; simp [gJ]
 | succ n ih =>
  intro j
  simp only [gJ]
  rcases Nat.lt_or_ge j z.length with hj | hj
  · rw [List.getElem?_append_left hj, if_pos (by rw [Nat.add_mul, Nat.one_mul]; omega), Nat.mod_eq_of_lt hj]
  · rw [List.getElem?_append_right hj, ih]
    have e1 : (j - z.length) % z.length = j % z.length := by
     conv => rhs; rw [← Nat.sub_add_cancel hj]
     rw [Nat.add_mod_right]
    rw [e1]
    have e2 : (j - z.length < n * z.length) = (j < (n + 1) * z.length) := by
     rw [Nat.add_mul, Nat.one_mul]; apply propext; omega
    simp only [e2]
theorem rF (v : Value) (n : Nat) : gJ [v] n = List.replicate n v := by
 induction n with
 | zero => rfl
 | succ n ih => simp [gJ, ih, List.replicate_succ]
theorem mL (z : Array Value) (n : Nat) (hz : 0 < z.size) : (((Array.range (n * z.size)).map (z[· % z.size]!))).toList = gJ z.toList n := by
 apply List.ext_getElem?
 intro j
 rw [sl]
 simp only [Array.toList_map, List.getElem?_map, Array.length_toList, Array.toList_range]
 by_cases hj : j < n * z.size
 · rw [if_pos hj, List.getElem?_range hj]
   have hm : j % z.size < z.size := Nat.mod_lt _ hz
   simp [hm]
 · rw [if_neg hj, List.getElem?_eq_none (by simp; omega)]
   rfl
theorem qj (hr : bn base ι h w) (hbase : base ≤ w.heap.size) {cn : List Value} {cs' : Array Value} {el : TypeId} {sz n : Nat} (hlen : cn.length ≤ cs'.size) (hcell : ∀ x ∈ cn, cI x = true)
  (hv : ∀ (i : Nat) v v', cn[i]? = some v → cs'[i]? = some v' → aP ι v v') :
  let w' : World := { w with heap := w.heap.push (.cells cs' el), drawn := n }
  let en : Ext := ⟨w.heap.size, 0, cs'.size, sz, false⟩
  bn base (ι.add h.n en) (h.new (.cells sz false h.n none 0 cn)) w' ∧ dE ι h (h.new (.cells sz false h.n none 0 cn)) w w' ∧ bw base ι (ι.add h.n en) h (h.new (.cells sz false h.n none 0 cn)) w := by
 intro w' en
 have hc : ∀ i, i < cs'.size → w'.cell? ⟨w.heap.size, 0 + i, none⟩ = cs'[i]? ∧ w'.frozen? ⟨w.heap.size, 0 + i, none⟩ = false := by
  intro i hi
  refine ⟨?_, ?_⟩
  · simp only [World.cell?, w', Array.getElem?_push_size]
    simp
  · simp only [World.frozen?, w', Array.getElem?_push_size]
    simp
 refine vD hr hbase (eJ.push w _ _) (en := en) ⟨Nat.le_refl _, by simp [w', en]⟩ rfl hlen hcell (fun i v hi => ?_) (fun i hi => ?_)
 · have hlt := (List.getElem?_eq_some_iff.1 hi).1
   have hlt' : i < cs'.size := by omega
   exact ⟨cs'[i], by rw [(hc i hlt').1]; exact Array.getElem?_eq_getElem hlt', hv i v _ hi (Array.getElem?_eq_getElem hlt')⟩
 · exact ⟨⟨cs'[i], by rw [(hc i hi).1]; exact Array.getElem?_eq_getElem hi⟩, (hc i hi).2⟩
theorem sR (hr : bn base ι h w) (hbase : base ≤ w.heap.size) {x x' : Value} {el : TypeId} (hx : aP ι x x') (hc : x.cells.all cI = true) :
  ∃ v' w', (do pure (Value.pointer (some (← newVar el x'))) : Sem Value).run P w = .ok v' w' ∧ gC base ι h (oS h x.cells).2 w w' (oS h x.cells).1 v' := by
 obtain ⟨hn, hrel⟩ := hx.cells
 obtain ⟨h1, h2, h3⟩ := qj (el := el) (sz := 0) (n := w.drawn) hr hbase (cn := x.cells.toList) (cs' := x'.cells) (by simp [hn])
  (fun y hy => Array.all_eq_true_iff_forall_mem.1 hc y (Array.mem_toList_iff.1 hy)) (fun i v v' a b => hrel i v v' (by simpa using a) b)
 refine ⟨.pointer (some ⟨w.heap.size, 0, none⟩), _, rfl, _, h3, ?_, h1, h2⟩
 have : (ι.add h.n ⟨w.heap.size, 0, x'.cells.size, 0, false⟩) h.n = some ⟨w.heap.size, 0, x'.cells.size, 0, false⟩ := by simp [Lay.add]
 exact .ptr this rfl
theorem wV (hr : bn base ι h w) (hbase : base ≤ w.heap.size) {t : TypeId} {n v : Value} (hv : lW P h t n = some (v, h')) :
  ∃ v' w', (Instr.makeSlice t n n).run P w = .ok v' w' ∧ gC base ι h h' w w' v v' := by
 unfold lW at hv
 split at hv
 · rename_i i el hel
   split at hv
   · rename_i sz by_ z hs hb hz
     split at hv
     · rename_i hc
       obtain ⟨h0, hlt, hby, hzs, hpos⟩ := hc
       injection hv with hv
       injection hv with hv1 hv2
       subst hv1 hv2
       obtain ⟨hz1, hz2⟩ := gx hz w
       obtain ⟨ti, hti, htb⟩ := pk hb
       have hw : IntKind.i64.wrap i = i := IntWalk.i64_in i (by omega)
       have hto : ((i.toNat : Nat) : Int) = i := Int.toNat_of_nonneg h0
       have hrow := qj (el := el) (sz := sz) (n := w.drawn) hr hbase (cn := gJ z.cells.toList i.toNat) (cs' := (Array.range (i.toNat * sz)).map (z.cells[· % z.cells.size]!))
        (by rw [← mL z.cells i.toNat (by omega), hzs]; simp) (fun y hy => ?_) (fun j v v' hj hj' => ?_)
       · obtain ⟨r1, r2, r3⟩ := hrow
         refine ⟨.slice (some ⟨w.heap.size, 0, none⟩) i.toNat i.toNat, _, ?_, _, r3, ?_, r1, r2⟩
         · simp only [Instr.makeSlice, Sem.run_bind, bF (hU hel), Result.andThen_ok, asInt, asIntOf, Sem.run_pure, hti, htb, hw]
           rw [if_neg (by
            simp only [Bool.or_eq_true, decide_eq_true_eq, not_or]
            have : (by_ : Int) * i = i * by_ := Int.mul_comm _ _
            omega)]
           simp only [Sem.run_bind, run_askRoom, Result.andThen_ok, cP hs, newRow]
           split
           · rename_i h00
             have e0 : ∀ (f g : Nat → Value), (Array.range (i.toNat * sz)).map f = (Array.range (i.toNat * sz)).map g := fun f g => by rw [h00]; simp
             simp only [Sem.run_bind, Sem.run_pure, Result.andThen_ok, run_newObj]
             rw [e0 _ (z.cells[· % z.cells.size]!)]
           · simp only [Sem.run_bind, hz1, Result.andThen_ok, Sem.run_pure, run_newObj]
         · refine .slice (e := ⟨w.heap.size, 0, ((Array.range (i.toNat * sz)).map (z.cells[· % z.cells.size]!)).size, sz, false⟩) (o := 0) (by simp [Lay.add]) rfl (Nat.le_refl _) ?_
           simp
       · rw [← mL z.cells i.toNat (by omega)] at hy
         have hy' := Array.mem_toList_iff.1 hy
         obtain ⟨j, _, rfl⟩ := Array.mem_map.1 hy'
         have hm : j % z.cells.size < z.cells.size := Nat.mod_lt _ (by omega)
         have hp := Array.all_eq_true_iff_forall_mem.1 hz2 (z.cells[j % z.cells.size]!) (by simp [hm])
         revert hp
         generalize z.cells[j % z.cells.size]! = u
         cases u <;> simp [aX, cI]
       · have e1 : ((Array.range (i.toNat * sz)).map (z.cells[· % z.cells.size]!))[j]? = some v := by
           rw [← mL z.cells i.toNat (by omega), hzs] at hj
           rw [hzs, ← Array.getElem?_toList]
           exact hj
         obtain rfl := Option.some.inj (e1.symm.trans hj')
         refine .atom ?_
         obtain ⟨q, _, rfl⟩ := Array.mem_map.1 (Array.mem_of_getElem? e1)
         have hm : q % z.cells.size < z.cells.size := Nat.mod_lt _ (by omega)
         exact Array.all_eq_true_iff_forall_mem.1 hz2 _ (by simp [hm])
     · cases hv
   · cases hv
 · cases hv
end Go.Proofs.YthekokdpplobhaaGreat.Eng
set_option linter.unusedVariables false
set_option linter.unusedSimpArgs false
namespace Go.Proofs.YthekokdpplobhaaGreat.Eng
variable {P : Program} {base : Nat} {ι : Lay} {h h' : ai} {w : World}
theorem vX (sz : Nat) : ∀ (ps : List (Nat × Value)) (m : Nat) (a : Array Value), (∀ (i : Nat) p, ps[i]? = some p → p.1 = m + i ∧ p.2.cells.size = sz) → a.size = (m + ps.length) * sz →
  ∃ r, Instr.fill (fun i => some (i * sz, sz)) a ps = some r ∧ r.toList = a.toList.take (m * sz) ++ (ps.map fun p => p.2.cells.toList).flatten := by
 intro ps
 induction ps with
 | nil => intro m a _ ha; exact ⟨a, rfl, by simp at ha; simp; rw [List.take_of_length_le (by simp; omega)]⟩
 | cons p ps ih =>
  intro m a hp ha
  obtain ⟨h1, h2⟩ := hp 0 p rfl
  obtain ⟨i, v⟩ := p
  simp only [Nat.add_zero] at h1 h2
  subst h1
  simp only [List.length_cons] at ha
  have hsz : i * sz + sz ≤ a.size := by
   rw [ha, show i + (ps.length + 1) = ps.length + (i + 1) by omega, Nat.add_mul, Nat.add_mul, Nat.one_mul]; omega
  obtain ⟨s1, g1⟩ := mA v.cells (i * sz) a (by omega)
  have hsp : (v.cells.zipIdx.foldl (fun a (p : Value × Nat) => a.setIfInBounds (i * sz + p.2) p.1) a).toList = dj a.toList (i * sz) v.cells.toList := by
   apply List.ext_getElem?
   intro j
   rw [gK (by simp; omega)]
   simp only [Array.getElem?_toList, Array.length_toList]
   exact g1 j
  obtain ⟨r, hr1, hr2⟩ := ih (i + 1) (v.cells.zipIdx.foldl (fun a (p : Value × Nat) => a.setIfInBounds (i * sz + p.2) p.1) a) (fun j q hq => by
   have := hp (j + 1) q (by simpa using hq)
   exact ⟨by omega, this.2⟩) (by rw [s1, ha]; congr 1; omega)
  refine ⟨r, ?_, ?_⟩
  · simp only [Instr.fill]
    rw [if_neg (by simp only [ne_eq, Bool.or_eq_true, decide_eq_true_eq, not_or]; omega)]
    exact hr1
  · rw [hr2, hsp]
    simp only [List.map_cons, List.flatten_cons, ← List.append_assoc]
    congr 1
    unfold dj
    have e1 : (a.toList.take (i * sz)).length = i * sz := by simp; omega
    rw [Nat.add_mul, Nat.one_mul, List.append_assoc, List.take_append, e1, List.take_of_length_le (by omega), show i * sz + sz - i * sz = sz by omega, List.take_append]
    simp [h2]
    rw [List.take_of_length_le (by simp; omega)]
theorem x9 (hr : bn base ι h w) (hbase : base ≤ w.heap.size) {t : TypeId} {len : Nat} {parts parts' : Array (Nat × Value)} {v : Value} (hv : pS P h t len parts = some (v, h')) (hl : parts'.size = parts.size)
  (hp : ∀ (i : Nat) p p', parts[i]? = some p → parts'[i]? = some p' → p'.1 = p.1 ∧ aP ι p.2 p'.2) :
  ∃ v' w', (Instr.buildSlice t len parts').run P w = .ok v' w' ∧ gC base ι h h' w w' v v' := by
 unfold pS at hv
 split at hv
 · rename_i el hel
   split at hv
   · rename_i sz z hs hz
     split at hv
     · rename_i hc
       obtain ⟨hbig, hpos, hzs, hrange, hall⟩ := hc
       injection hv with hv
       injection hv with hv1 hv2
       subst hv1 hv2
       obtain ⟨hz1, hz2⟩ := gx hz w
       have hlen : parts.toList.length = len := by have := congrArg List.length hrange; simpa using this
       have hlen' : parts'.toList.length = len := by simpa [hl] using hlen
       have hidx : ∀ (i : Nat) p, parts.toList[i]? = some p → p.1 = i ∧ p.2.cells.size = sz ∧ p.2.cells.all cI = true := by
        intro i p hpi
        have h1 : (parts.toList.map (·.1))[i]? = some p.1 := by rw [List.getElem?_map, hpi]; rfl
        rw [hrange] at h1
        have h2 := (List.getElem?_eq_some_iff.1 h1)
        obtain ⟨h3, h4⟩ := h2
        simp at h4
        have h5 := List.all_eq_true.1 hall p (List.mem_of_getElem? hpi)
        simp only [Bool.and_eq_true, beq_iff_eq] at h5
        exact ⟨h4.symm, h5.1, h5.2⟩
       have hrel : ∀ (i : Nat) p', parts'.toList[i]? = some p' → ∃ p, parts.toList[i]? = some p ∧ p'.1 = p.1 ∧ aP ι p.2 p'.2 := by
        intro i p' hpi
        have hi : i < parts.toList.length := by
         have := (List.getElem?_eq_some_iff.1 hpi).1
         omega
        obtain ⟨h1, h2⟩ := hp i parts.toList[i] p' (by simp) (by simpa using hpi)
        exact ⟨_, List.getElem?_eq_getElem hi, h1, h2⟩
       have hseq := vX sz parts'.toList 0 ((Array.range (len * sz)).map (z.cells[· % z.cells.size]!)) (fun i p' hpi => by
        obtain ⟨p, h1, h2, h3⟩ := hrel i p' hpi
        obtain ⟨h4, h5, _⟩ := hidx i p h1
        exact ⟨by omega, by rw [h3.cells.1]; exact h5⟩) (by simp [hlen'])
       obtain ⟨r, hr1, hr2⟩ := hseq
       simp only [Nat.zero_mul, List.take_zero, List.nil_append] at hr2
       have hflat : ∀ (ps ps' : List (Nat × Value)), ps'.length = ps.length → (∀ (i : Nat) p p', ps[i]? = some p → ps'[i]? = some p' → aP ι p.2 p'.2 ∧ p.2.cells.all cI = true) →
         ((ps'.map fun p => p.2.cells.toList).flatten.length = (ps.map fun p => p.2.cells.toList).flatten.length) ∧ (∀ x ∈ (ps.map fun p => p.2.cells.toList).flatten, cI x = true) ∧
         ∀ (i : Nat) x x', (ps.map fun p => p.2.cells.toList).flatten[i]? = some x → (ps'.map fun p => p.2.cells.toList).flatten[i]? = some x' → aP ι x x' := by
        intro ps
        induction ps with
        | nil =>
         intro ps' hl0 _
         obtain rfl := List.length_eq_zero_iff.1 hl0
         exact ⟨rfl, by simp, by simp⟩
        | cons p ps ih =>
         intro ps' hl0 hpp
         cases ps' with
         | nil => simp at hl0
         | cons p' ps' =>
          obtain ⟨hv0, hc0⟩ := hpp 0 p p' rfl rfl
          obtain ⟨hn, hcs⟩ := hv0.cells
          obtain ⟨i1, i2, i3⟩ := ih ps' (by simpa using hl0) (fun i q q' a b => hpp (i + 1) q q' (by simpa using a) (by simpa using b))
          simp only [List.map_cons, List.flatten_cons]
          refine ⟨by simp only [List.length_append, i1, Array.length_toList, hn], fun x hx => ?_, fun i x x' hx hx' => ?_⟩
          · rcases List.mem_append.1 hx with hx | hx
            · exact Array.all_eq_true_iff_forall_mem.1 hc0 x (Array.mem_toList_iff.1 hx)
            · exact i2 x hx
          · rcases Nat.lt_or_ge i p.2.cells.size with hi | hi
            · rw [List.getElem?_append_left (by simpa using hi)] at hx
              rw [List.getElem?_append_left (by simpa [hn] using hi)] at hx'
              exact hcs i x x' (by simpa using hx) (by simpa using hx')
            · rw [List.getElem?_append_right (by simpa using hi)] at hx
              rw [List.getElem?_append_right (by simpa [hn] using hi)] at hx'
              simp only [Array.length_toList] at hx hx'
              rw [hn] at hx'
              exact i3 _ x x' hx hx'
       obtain ⟨f1, f2, f3⟩ := hflat parts.toList parts'.toList (by omega) (fun i p p' a b => by
        obtain ⟨q, h1, h2, h3⟩ := hrel i p' b
        obtain rfl := Option.some.inj (a.symm.trans h1)
        exact ⟨h3, (hidx i p a).2.2⟩)
       have hrsize : r.size = (parts.toList.map fun p => p.2.cells.toList).flatten.length := by rw [← f1, ← hr2]; simp
       have hlensz : (parts.toList.map fun p => p.2.cells.toList).flatten.length = len * sz := by
        have hg : ∀ (ps : List (Nat × Value)), (∀ p ∈ ps, p.2.cells.size = sz) → (ps.map fun p => p.2.cells.toList).flatten.length = ps.length * sz := by
         intro ps
         induction ps with
         | nil => intro _; simp
         | cons p ps ih =>
          intro hps
          simp only [List.map_cons, List.flatten_cons, List.length_append, Array.length_toList, List.length_cons, Nat.add_mul, Nat.one_mul]
          rw [ih (fun q hq => hps q (List.mem_cons_of_mem _ hq)), hps p (by simp)]
          omega
        rw [hg _ (fun p hp => by have := List.all_eq_true.1 hall p hp; simp only [Bool.and_eq_true, beq_iff_eq] at this; exact this.1), hlen]
       obtain ⟨q1, q2, q3⟩ := qj (el := el) (sz := sz) (n := w.drawn) hr hbase (cn := (parts.toList.map fun p => p.2.cells.toList).flatten) (cs' := r) (by omega) f2
        (fun i x x' hx hx' => f3 i x x' hx (by rw [← hr2]; simpa using hx'))
       refine ⟨.slice (some ⟨w.heap.size, 0, none⟩) len len, _, ?_, _, q3, ?_, q1, q2⟩
       · simp only [Instr.buildSlice, Sem.run_bind, bF (hU hel), Result.andThen_ok, cP hs]
         rw [if_neg (by omega)]
         split
         · rename_i h00
           have e0 : ∀ (f g : Nat → Value), (Array.range (len * sz)).map f = (Array.range (len * sz)).map g := fun f g => by rw [h00]; simp
           simp only [Sem.run_bind, Sem.run_pure, Result.andThen_ok]
           rw [e0 _ (z.cells[· % z.cells.size]!), hr1]
           rfl
         · simp only [Sem.run_bind, hz1, Sem.run_pure, Result.andThen_ok]
           rw [hr1]
           rfl
       · refine .slice (e := ⟨w.heap.size, 0, r.size, sz, false⟩) (o := 0) (by simp [Lay.add]) rfl (Nat.le_refl _) ?_
         simp only [Nat.zero_add]
         omega
     · cases hv
   · cases hv
 · cases hv
end Go.Proofs.YthekokdpplobhaaGreat.Eng
set_option linter.unusedVariables false
set_option linter.unusedSimpArgs false
namespace Go.Proofs.YthekokdpplobhaaGreat.Eng
variable {P : Program} {base : Nat} {ι : Lay} {h h' : ai} {w : World}
theorem vp (hr : bn base ι h w) {sz n : Nat} {x x' : Value} {new : List Value} (hv : iX h sz x = some (n, new)) (hx : aP ι x x') :
  new.length = n * sz ∧ (∀ y ∈ new, cI y = true) ∧ (∀ w1 : World, (Builtin.lenOf x').run P w1 = .ok n w1) ∧
  ∃ new' : Array Value, new'.size = new.length ∧ (∀ (i : Nat) y y', new[i]? = some y → new'[i]? = some y' → aP ι y y') ∧
   ∀ w1 : World, (∀ B o u, w.cell? ⟨B, o, none⟩ = some u → w1.cell? ⟨B, o, none⟩ = some u) → (Builtin.firstCells sz n x').run P w1 = .ok new' w1 := by
 unfold iX at hv
 split at hv
 · injection hv with hv; injection hv with h1 h2; subst h1 h2
   obtain rfl := hx.plain rfl
   exact ⟨by simp, by simp, fun _ => rfl, #[], rfl, by simp, fun _ _ => rfl⟩
 · rename_i b off l c0
   split at hv
   · rename_i c hc
     split at hv
     · rename_i hle
       injection hv with hv; injection hv with h1 h2; subst h1 h2
       obtain ⟨e, he, hmp, ⟨c', rfl, h1, h2⟩ | ⟨A, rfl, rfl⟩⟩ := hx.kq
       · obtain ⟨cl, q1, q2, q3⟩ := hr.list he hmp hc
         have hcell := (hr.yF he hmp hc).1
         refine ⟨by simp; omega, fun y hy => hcell y (List.mem_of_mem_drop (List.mem_of_mem_take hy)), fun _ => rfl, ((cl.drop off).take (l * sz)).toArray, by simp; omega, fun i y y' hy hy' => ?_, fun w1 hw1 => ?_⟩
         · simp only [List.getElem?_toArray, List.getElem?_take] at hy hy'
           split at hy
           · rename_i hi
             rw [if_pos hi] at hy'
             rw [List.getElem?_drop] at hy hy'
             exact q3 _ _ _ hy hy'
           · cases hy
         · have := run_loadCells (P := P) (w := w1) ⟨e.block, e.off + off, none⟩ (l * sz) 0 #[] ((cl.drop off).take (l * sz)) (by simp; omega) (fun j u hj => by
             rw [fR, Nat.zero_add, show e.off + off + j = e.off + (off + j) by omega]
             rw [List.getElem?_take] at hj
             split at hj
             · rw [List.getElem?_drop] at hj; exact hw1 _ _ _ (q2 _ _ hj)
             · cases hj)
           simpa [Builtin.firstCells, loadCells] using this
       · refine ⟨by simp, by simp, fun _ => rfl, #[], by simp, by simp, fun w1 _ => ?_⟩
         simp [Builtin.firstCells, loadCells, loadCellsFrom]
     · cases hv
   · cases hv
 · rename_i s
   obtain rfl := hx.plain rfl
   split at hv
   · rename_i h1; subst h1
     injection hv with hv; injection hv with h1 h2; subst h1 h2
     have e1 : s.data.toList.length = s.size := by simp
     refine ⟨by simp, fun y hy => ?_, fun _ => rfl, s.data.map fun b => .int .u8 b.toNat, by simp, fun i y y' hy hy' => ?_, fun w1 _ => ?_⟩
     · obtain ⟨b, _, rfl⟩ := List.mem_map.1 hy; rfl
     · have e2 : (s.data.map fun b => (Value.int .u8 b.toNat))[i]? = some y := by
         rw [← Array.getElem?_toList, Array.toList_map]; exact hy
       obtain rfl := Option.some.inj (e2.symm.trans hy')
       obtain ⟨b, _, rfl⟩ := Array.mem_map.1 (Array.mem_of_getElem? e2)
       exact .atom rfl
     · have e3 : s.extract 0 s.size = s := by simp
       simp [Builtin.firstCells, e3]
   · cases hv
 · cases hv
theorem eJ.mono {w w' : World} {Z Z' : Nat → Nat → Prop} (hT : eJ w w' Z) (hZ : ∀ B o, Z B o → Z' B o) : eJ w w' Z' :=
 ⟨hT.os, hT.tape, hT.output, hT.size, fun B hB hn => hT.block B hB fun o hz => hn o (hZ B o hz), fun B o u hu hn => hT.cell B o u hu fun hz => hn (hZ B o hz), hT.there⟩
theorem oc {t el : TypeId} {sz by_ n l c' : Nat} {s' x' : Value} {A : Option Addr} {old' new' : Array Value} {args : Array TypeId} {ty : TypeId} (hel : elemOf P t = some el) (hs : cR P el = some sz)
  (hb : jR P el = some by_) (ht : args[0]? = some t) (hx : ∃ xt d, args[1]? = some xt ∧ P.underlying xt = some d ∧ ((∃ e', d = .slice e') ∨ d = .string)) (hs' : s' = .slice A l c')
  (hz : ∃ z, zeroOf P el = some z ∧ z.cells.size = sz) (hlen : (Builtin.lenOf x').run P w = .ok n w) (hneed : ¬ l + n ≤ c') (hfit : jL by_ (l + n) = true) (hpos : 0 < by_) (hpos2 : 0 < sz)
  (hold : ∀ w1 : World, (∀ B o u, w.cell? ⟨B, o, none⟩ = some u → w1.cell? ⟨B, o, none⟩ = some u) → (Builtin.firstCells sz l s').run P w1 = .ok old' w1)
  (hnew : ∀ w1 : World, (∀ B o u, w.cell? ⟨B, o, none⟩ = some u → w1.cell? ⟨B, o, none⟩ = some u) → (Builtin.firstCells sz n x').run P w1 = .ok new' w1) (hsizes : old'.size = l * sz ∧ new'.size = n * sz) :
  ∃ cap rest, (l + n ≤ cap ∧ old'.size + new'.size + rest = cap * sz) ∧ ∃ cs' : Array Value, cs'.size = old'.size + new'.size + rest ∧ (∀ i, i < old'.size → cs'[i]? = old'[i]?) ∧ (∀ i, i < new'.size → cs'[old'.size + i]? = new'[i]?) ∧
   ∃ d, (Builtin.append_ args ty #[s', x']).run P w = .ok (.slice (some ⟨w.heap.size, 0, none⟩) (l + n) cap) { w with heap := w.heap.push (.cells cs' el), drawn := d } := by
 obtain ⟨xt, d, hxt, hd, hdi⟩ := hx
 obtain ⟨z, hz, hzs⟩ := hz
 obtain ⟨ti, hti, htb⟩ := pk hb
 subst hs'
 simp only [jL, decide_eq_true_eq] at hfit
 have hgrow := growslice_fits (need := l + n) (old := c') (bytes := by_) (by omega) hfit
 have hsmall : l + n ≤ 140737488355328 := Nat.le_trans (Nat.le_mul_of_pos_right _ hpos) hfit
 let q := Question.appendCap (l + n) c' el
 let cap := q.cut (w.tape w.drawn q)
 have hcap : l + n ≤ cap := by show l + n ≤ (l + n) + _; omega
 refine ⟨cap, (cap - (l + n)) * sz, ⟨hcap, ?_⟩, old' ++ new' ++ Builtin.zeroCells z.cells (cap - (l + n)), ?_, fun i hi => ?_, fun i hi => ?_, w.drawn + 1, ?_⟩
 · rw [hsizes.1, hsizes.2, ← Nat.add_mul, ← Nat.add_mul]; congr 1; omega
 · simp [Builtin.zeroCells, hzs]; omega
 · rw [Array.append_assoc, Array.getElem?_append_left hi]
 · rw [Array.append_assoc, Array.getElem?_append_right (by omega), Array.getElem?_append_left (by omega)]
   congr 1; omega
 · have hu := hU hel
   have hz1 : ∀ w1 : World, (zeroValue el).run P w1 = .ok z w1 := fun w1 => (gx hz w1).1
   rcases hdi with ⟨e', rfl⟩ | rfl
   all_goals
    simp only [Builtin.append_, ht, hxt, List.getElem?_toArray, List.getElem?_cons_zero, List.getElem?_cons_succ, Sem.run_bind, bF hu, bF hd, Result.andThen_ok, cP hs, Sem.run_pure, Bool.false_eq_true, if_false, hlen, Bool.not_false, if_true, hneed]
    rw [hti w]
    simp only [Result.andThen_ok]
    rw [if_neg (by rintro ⟨q1, _⟩; have : IntKind.i64.max = 9223372036854775807 := rfl; omega)]
    simp only [Sem.run_bind]
    rw [hti w]
    simp only [Result.andThen_ok, htb]
    rw [if_neg (by omega)]
    have hch : (choose (Question.appendCap (l + n) c' el)).run P w = .ok cap { w with drawn := w.drawn + 1 } := by
     rw [run_choose, if_neg (by simp [Question.forced])]
    simp only [Sem.run_bind, hch, Result.andThen_ok, hti, htb, run_askRoom, hold { w with drawn := w.drawn + 1 } (fun _ _ _ h => h), hnew { w with drawn := w.drawn + 1 } (fun _ _ _ h => h), hz1, newRow, run_newObj, Sem.run_pure]
end Go.Proofs.YthekokdpplobhaaGreat.Eng
set_option linter.unusedVariables false
set_option linter.unusedSimpArgs false
namespace Go.Proofs.YthekokdpplobhaaGreat.Eng
variable {P : Program} {base : Nat} {ι : Lay} {h h' : ai} {w : World}
theorem ou {t el : TypeId} {sz n l c' : Nat} {x' : Value} {A : Option Addr} {new' : Array Value} {args : Array TypeId} {ty : TypeId} {w' : World} (hel : elemOf P t = some el) (hs : cR P el = some sz)
  (ht : args[0]? = some t) (hx : ∃ xt d, args[1]? = some xt ∧ P.underlying xt = some d ∧ ((∃ e', d = .slice e') ∨ d = .string))
  (hlen : (Builtin.lenOf x').run P w = .ok n w) (hneed : l + n ≤ c') (hnew : (Builtin.firstCells sz n x').run P w = .ok new' w)
  (hst : ∀ a, A = some a → (storeCells (a.add (l * sz)) new'.toList).run P w = .ok () w') (hno : A = none → w' = w) :
  (Builtin.append_ args ty #[.slice A l c', x']).run P w = .ok (.slice A (l + n) c') w' := by
 obtain ⟨xt, d, hxt, hd, hdi⟩ := hx
 have hu := hU hel
 rcases hdi with ⟨e', rfl⟩ | rfl
 all_goals
  simp only [Builtin.append_, ht, hxt, List.getElem?_toArray, List.getElem?_cons_zero, List.getElem?_cons_succ, Sem.run_bind, bF hu, bF hd, Result.andThen_ok, cP hs, Sem.run_pure, Bool.false_eq_true, if_false, hlen, Bool.not_false, if_true, hneed, hnew]
  cases A with
  | none => obtain rfl := hno rfl; rfl
  | some a => simp only [Sem.run_bind, hst a rfl, Result.andThen_ok, Sem.run_pure]
theorem uG (hr : bn base ι h w) (hbase : base ≤ w.heap.size) {t : TypeId} {s s' x x' v : Value} {args : Array TypeId} {ty : TypeId} (hv : eY P h t s x = some (v, h')) (hs0 : aP ι s s') (hx0 : aP ι x x')
  (ht : args[0]? = some t) (hx : ∃ xt d, args[1]? = some xt ∧ P.underlying xt = some d ∧ ((∃ e', d = .slice e') ∨ d = .string)) :
  ∃ v' w', (Builtin.append_ args ty #[s', x']).run P w = .ok v' w' ∧ gC base ι h h' w w' v v' := by
 unfold eY at hv
 split at hv
 · cases hv
 rename_i el hel
 split at hv
 case h_2 => cases hv
 rename_i sz by_ hs hb
 split at hv
 case h_2 => cases hv
 rename_i n new zs hsrc hzs
 split at hv
 · cases hv
 rename_i hzs2
 have hz : ∃ z, zeroOf P el = some z ∧ z.cells.size = sz := by
  cases hzz : zeroOf P el with
  | none => rw [hzz] at hzs; cases hzs
  | some z =>
   rw [hzz] at hzs
   simp only [Option.map_some, Option.some.injEq] at hzs
   exact ⟨z, rfl, by omega⟩
 obtain ⟨hnl, hncell, hlen, new', hn1, hn2, hn3⟩ := vp (P := P) hr hsrc hx0
 split at hv
 ·
   obtain rfl := hs0.plain rfl
   split at hv
   · rename_i hn0; subst hn0
     injection hv with hv; injection hv with hv1 hv2; subst hv1 hv2
     refine ⟨_, w, ou (A := none) (l := 0) (c' := 0) (w' := w) hel hs ht hx (hlen w) (Nat.le_refl _) (hn3 w fun _ _ _ h => h) (fun a ha => by cases ha) (fun _ => rfl), ?_⟩
     exact gC.same hr (.atom rfl)
   · rename_i hn0
     split at hv
     · rename_i hc
       obtain ⟨hfit, hpos2, hpos⟩ := hc
       injection hv with hv; injection hv with hv1 hv2; subst hv1 hv2
       obtain ⟨cap, rest, ⟨hcap1, hcap2⟩, cs', hcs1, hcs2, hcs3, d, hrun⟩ := oc (w := w) (l := 0) (c' := 0) (A := none) (old' := #[]) (new' := new') (ty := ty) (s' := .slice none 0 0) hel hs hb ht hx rfl hz (hlen w) (by omega) (by simpa using hfit) hpos hpos2
        (fun _ _ => rfl) hn3 ⟨by simp, by rw [hn1, hnl]⟩
       obtain ⟨r1, r2, r3⟩ := qj (el := el) (sz := sz) (n := d) hr hbase (cn := new) (cs' := cs') (by simp at hcs1; omega) hncell (fun i y y' hy hy' => by
        have hi := (List.getElem?_eq_some_iff.1 hy).1
        have := hcs3 i (by omega)
        simp only [Array.size_empty, Nat.zero_add] at this
        exact hn2 i y y' hy (by rw [← this]; exact hy'))
       refine ⟨_, _, by simpa using hrun, _, r3, ?_, r1, r2⟩
       refine .slice (e := ⟨w.heap.size, 0, cs'.size, sz, false⟩) (o := 0) (by simp [Lay.add]) rfl (by omega) ?_
       simp only [Array.size_empty] at hcap2 hcs1
       simp only [Nat.zero_add]
       omega
     · cases hv
 ·
   rename_i b off l c0
   split at hv
   · rename_i sz' f k c ho
     split at hv
     · rename_i hc
       obtain ⟨rfl, hend, hfit, hpos2, hpos⟩ := hc
       injection hv with hv; injection hv with hv1 hv2; subst hv1 hv2
       obtain ⟨e, he, hmp, hcase⟩ := hs0.kq
       obtain ⟨hesz, hecap0, hebase, hecell0⟩ := hr.na b e _ _ _ _ _ _ he ho
       have hecap := hecap0 hmp
       have hecell := hecell0 hmp
       have hrd : h.rd b = some c := by unfold ai.rd; rw [ho]
       obtain ⟨cl, q1, q2, q3⟩ := hr.list he hmp hrd
       have hcellc : ∀ y ∈ c.drop off ++ new, cI y = true := fun y hy => by
        rcases List.mem_append.1 hy with hy | hy
        · exact hecell y (List.mem_of_mem_drop hy)
        · exact hncell y hy
       have hdl : (c.drop off).length = l * sz' := by simp; omega
       rcases hcase with ⟨c', rfl, h1, h2⟩ | ⟨A, rfl, rfl⟩
       · by_cases hneed : l + n ≤ c'
         ·
           have hmul : (l + n) * sz' ≤ c' * sz' := Nat.mul_le_mul_right _ hneed
           rw [Nat.add_mul] at hmul
           obtain ⟨w', hrun, hw⟩ := kp (P := P) e.block (e.off + off + l * sz') new'.toList 0 w (fun y hy => by
            obtain ⟨i, hi, rfl⟩ := List.mem_iff_getElem.1 hy
            have hi' : i < new.length := by simpa [hn1] using hi
            exact (hn2 i new[i] _ (List.getElem?_eq_getElem hi') (by simp)).cellOf (hncell _ (List.getElem_mem hi'))) (fun j hj => by
            have hj' : j < new.length := by simpa [hn1] using hj
            have := hr.room b e _ _ _ _ _ (off + l * sz' + j) he ho (by rw [hesz] at h2; omega)
            rw [Nat.zero_add, show e.off + off + l * sz' + j = e.off + (off + l * sz' + j) by omega]
            exact this)
           rw [Nat.add_zero] at hw
           have hT : eJ w w' fun B o => B = e.block ∧ e.off + c.length ≤ o ∧ o < e.off + e.cap := hw.lD.mono fun B o hz => by
            simp only [Array.length_toList, hn1] at hz
            rw [hesz] at h2
            exact ⟨hz.1, by omega, by omega⟩
           obtain ⟨r1, r2, r3⟩ := qg (cn := c.drop off ++ new) hr hbase he hmp ho hT (en := ⟨e.block, e.off + off, c' * sz', sz', false⟩) (.inr ⟨rfl, by simp, by simp only; rw [hesz] at h2; omega, by simp only [List.length_append, hdl]; omega⟩) rfl (by simp only [List.length_append, hdl]; omega) hcellc
            (fun i y hy => by
             rcases Nat.lt_or_ge i (l * sz') with hi | hi
             · rw [List.getElem?_append_left (by omega), List.getElem?_drop] at hy
               obtain ⟨y', hy1, hy2⟩ := hr.val b e c (off + i) y he hmp hrd hy
               refine ⟨y', hT.cell _ _ _ (by rw [Nat.add_assoc]; exact hy1) ?_, hy2⟩
               rintro ⟨_, q, _⟩
               simp only at q
               omega
             · rw [List.getElem?_append_right (by omega), hdl] at hy
               have hi' := (List.getElem?_eq_some_iff.1 hy).1
               obtain ⟨⟨u, hu⟩, _⟩ := hr.room b e _ _ _ _ _ (off + i) he ho (by rw [hesz] at h2; omega)
               have h3 := hw.cell _ _ _ hu
               rw [if_pos ⟨rfl, by omega, by simp only [Array.length_toList, hn1]; omega⟩] at h3
               have h4 : e.off + (off + i) - (e.off + off + l * sz') = i - l * sz' := by omega
               rw [h4] at h3
               have h5 : i - l * sz' < new'.size := by omega
               refine ⟨_, by rw [Nat.add_assoc]; exact h3, ?_⟩
               have h6 : new'.toList.getD (i - l * sz') u = new'[i - l * sz'] := by simp [List.getD_eq_getElem?_getD, h5]
               rw [h6]
               exact hn2 _ y _ hy (Array.getElem?_eq_getElem h5))
            (fun i hi => by
             simp only at hi ⊢
             have := hr.room b e _ _ _ _ _ (off + i) he ho (by rw [hesz] at h2; omega)
             rw [← Nat.add_assoc] at this
             obtain ⟨⟨u, hu⟩, hf⟩ := this
             obtain ⟨h3, h4⟩ := hT.there _ _ _ hu
             exact ⟨h3, by rw [h4]; exact hf⟩)
           refine ⟨_, w', ou (A := some ⟨e.block, e.off + off, none⟩) (w' := w') hel hs ht hx (hlen w) hneed (hn3 w fun _ _ _ h => h) (fun a ha => by
            injection ha with ha; subst ha
            rw [fR]; exact hrun) (fun ha => by cases ha), _, r3, ?_, r1, r2⟩
           have := aP.slice (ι := ι.add h.n ⟨e.block, e.off + off, c' * sz', sz', false⟩) (b := h.n) (o := 0) (l := l + n) (c := l + n) (c' := c') (e := ⟨e.block, e.off + off, c' * sz', sz', false⟩) (by simp [Lay.add]) rfl hneed (by simp)
           simpa using this
         ·
           have hold : ∀ w1 : World, (∀ B o u, w.cell? ⟨B, o, none⟩ = some u → w1.cell? ⟨B, o, none⟩ = some u) → (Builtin.firstCells sz' l (.slice (some ⟨e.block, e.off + off, none⟩) l c')).run P w1 = .ok ((cl.drop off).take (l * sz')).toArray w1 := by
            intro w1 hw1
            have := run_loadCells (P := P) (w := w1) ⟨e.block, e.off + off, none⟩ (l * sz') 0 #[] ((cl.drop off).take (l * sz')) (by simp; omega) (fun j u hj => by
             rw [fR, Nat.zero_add, show e.off + off + j = e.off + (off + j) by omega]
             rw [List.getElem?_take] at hj
             split at hj
             · rw [List.getElem?_drop] at hj; exact hw1 _ _ _ (q2 _ _ hj)
             · cases hj)
            simpa [Builtin.firstCells, loadCells] using this
           have hos : ((cl.drop off).take (l * sz')).toArray.size = l * sz' := by simp; omega
           obtain ⟨cap, rest, ⟨hcap1, hcap2⟩, cs', hcs1, hcs2, hcs3, d, hrun⟩ := oc (w := w) (l := l) (c' := c') (new' := new') (ty := ty) hel hs hb ht hx rfl hz (hlen w) hneed hfit hpos hpos2 hold hn3 ⟨hos, by rw [hn1, hnl]⟩
           have hT := (eJ.push w (.cells cs' el) d).mono (Z' := fun B o => B = e.block ∧ e.off + c.length ≤ o ∧ o < e.off + e.cap) fun _ _ hf => hf.elim
           have hcw : ∀ i, i < cs'.size → ({ w with heap := w.heap.push (.cells cs' el), drawn := d } : World).cell? ⟨w.heap.size, 0 + i, none⟩ = cs'[i]? ∧ ({ w with heap := w.heap.push (.cells cs' el), drawn := d } : World).frozen? ⟨w.heap.size, 0 + i, none⟩ = false := by
            intro i hi
            refine ⟨?_, ?_⟩
            · simp only [World.cell?, Array.getElem?_push_size]; simp
            · simp only [World.frozen?, Array.getElem?_push_size]; simp
           rw [hos] at hcs1 hcs2 hcs3 hcap2
           obtain ⟨r1, r2, r3⟩ := qg (cn := c.drop off ++ new) hr hbase he hmp ho hT (en := ⟨w.heap.size, 0, cs'.size, sz', false⟩) (.inl ⟨Nat.le_refl _, by simp⟩) rfl (by simp only [List.length_append, hdl]; omega) hcellc
            (fun i y hy => by
             have hil := (List.getElem?_eq_some_iff.1 hy).1
             simp only [List.length_append, hdl] at hil
             have hi1 : i < cs'.size := by omega
             refine ⟨cs'[i], by rw [(hcw i hi1).1]; exact Array.getElem?_eq_getElem hi1, ?_⟩
             rcases Nat.lt_or_ge i (l * sz') with hi | hi
             · rw [List.getElem?_append_left (by omega), List.getElem?_drop] at hy
               have h3 := hcs2 i hi
               rw [Array.getElem?_eq_getElem hi1] at h3
               simp only [List.getElem?_toArray, List.getElem?_take, if_pos hi, List.getElem?_drop] at h3
               exact q3 _ _ _ hy h3.symm
             · rw [List.getElem?_append_right (by omega), hdl] at hy
               have h3 := hcs3 (i - l * sz') (by omega)
               rw [show l * sz' + (i - l * sz') = i by omega, Array.getElem?_eq_getElem hi1] at h3
               exact hn2 _ y _ hy h3.symm)
            (fun i hi => ⟨⟨cs'[i], by rw [(hcw i hi).1]; exact Array.getElem?_eq_getElem hi⟩, (hcw i hi).2⟩)
           refine ⟨_, _, hrun, _, r3, ?_, r1, r2⟩
           exact .slice (e := ⟨w.heap.size, 0, cs'.size, sz', false⟩) (o := 0) (by simp [Lay.add]) rfl hcap1 (by simp only [Nat.zero_add]; omega)
       ·
         simp only [Nat.zero_mul, Nat.add_zero] at hend hdl
         have hd0 : c.drop off = [] := List.drop_eq_nil_of_le (by omega)
         by_cases hn0 : n = 0
         · subst hn0
           have hnew0 : new = [] := List.eq_nil_of_length_eq_zero (by simpa using hnl)
           subst hnew0
           have hn'0 : new' = #[] := Array.eq_empty_of_size_eq_zero (by simpa using hn1)
           have hT : eJ w w fun B o => B = e.block ∧ e.off + c.length ≤ o ∧ o < e.off + e.cap := ⟨rfl, rfl, rfl, Nat.le_refl _, fun _ _ _ => rfl, fun _ _ _ h _ => h, fun _ _ u h => ⟨⟨u, h⟩, rfl⟩⟩
           obtain ⟨r1, r2, r3⟩ := qg (cn := c.drop off ++ []) hr hbase he hmp ho hT (en := ⟨e.block, e.off + off, 0, sz', false⟩) (.inr ⟨rfl, by simp, by simp only; omega, by simp only [hd0, List.append_nil, List.length_nil]; omega⟩) rfl (by simp [hd0]) hcellc
            (fun i y hy => by rw [hd0] at hy; simp at hy) (fun i hi => by simp at hi)
           refine ⟨_, w, ou (A := some A) (l := 0) (c' := 0) (w' := w) hel hs ht hx (hlen w) (Nat.le_refl _) (hn3 w fun _ _ _ h => h) (fun a ha => by rw [hn'0]; rfl) (fun ha => by cases ha), _, r3, ?_, r1, r2⟩
           exact .eu (e := ⟨e.block, e.off + off, 0, sz', false⟩) (by simp [Lay.add]) rfl
         · obtain ⟨cap, rest, ⟨hcap1, hcap2⟩, cs', hcs1, hcs2, hcs3, d, hrun⟩ := oc (w := w) (l := 0) (c' := 0) (old' := #[]) (new' := new') (ty := ty) (s' := .slice (some A) 0 0) hel hs hb ht hx rfl hz (hlen w) (by omega) hfit hpos hpos2
             (fun w1 _ => by simp [Builtin.firstCells, loadCells, loadCellsFrom]) hn3 ⟨by simp, by rw [hn1, hnl]⟩
           have hT := (eJ.push w (.cells cs' el) d).mono (Z' := fun B o => B = e.block ∧ e.off + c.length ≤ o ∧ o < e.off + e.cap) fun _ _ hf => hf.elim
           have hcw : ∀ i, i < cs'.size → ({ w with heap := w.heap.push (.cells cs' el), drawn := d } : World).cell? ⟨w.heap.size, 0 + i, none⟩ = cs'[i]? ∧ ({ w with heap := w.heap.push (.cells cs' el), drawn := d } : World).frozen? ⟨w.heap.size, 0 + i, none⟩ = false := by
            intro i hi
            refine ⟨?_, ?_⟩
            · simp only [World.cell?, Array.getElem?_push_size]; simp
            · simp only [World.frozen?, Array.getElem?_push_size]; simp
           simp only [Array.size_empty, Nat.zero_add] at hcs1 hcs3 hcap1 hcap2
           obtain ⟨r1, r2, r3⟩ := qg (cn := c.drop off ++ new) hr hbase he hmp ho hT (en := ⟨w.heap.size, 0, cs'.size, sz', false⟩) (.inl ⟨Nat.le_refl _, by simp⟩) rfl (by simp only [hd0, List.nil_append]; omega) hcellc
            (fun i y hy => by
             rw [hd0, List.nil_append] at hy
             have hil := (List.getElem?_eq_some_iff.1 hy).1
             have hi1 : i < cs'.size := by omega
             have h3 := hcs3 i (by omega)
             rw [Array.getElem?_eq_getElem hi1] at h3
             exact ⟨cs'[i], by rw [(hcw i hi1).1]; exact Array.getElem?_eq_getElem hi1, hn2 _ y _ hy h3.symm⟩)
            (fun i hi => ⟨⟨cs'[i], by rw [(hcw i hi).1]; exact Array.getElem?_eq_getElem hi⟩, (hcw i hi).2⟩)
           refine ⟨_, _, hrun, _, r3, ?_, r1, r2⟩
           exact .slice (e := ⟨w.heap.size, 0, cs'.size, sz', false⟩) (o := 0) (by simp [Lay.add]) rfl (by omega) (by simp only [Nat.zero_add]; omega)
     · cases hv
   · cases hv
 · cases hv
end Go.Proofs.YthekokdpplobhaaGreat.Eng
set_option linter.unusedVariables false
set_option linter.unusedSimpArgs false
namespace Go.Proofs.YthekokdpplobhaaGreat.Eng
variable {P : Program} {base : Nat} {ι : Lay} {h h' : ai} {w : World}
def Comes (P : Program) (base : Nat) (ι : Lay) (h h' : ai) (w : World) (v : Value) (s : Sem Next) : Prop :=
 ∃ v' w' nx, s.run P w = .ok nx w' ∧ (nx = .value v' ∨ (nx = .skip ∧ v' = Go.undef)) ∧ gC base ι h h' w w' v v'
theorem Comes.pure {hr : bn base ι h w} {v v' : Value} {s : Sem Next} (he : s = (Pure.pure (Next.value v') : Sem Next)) (hv : aP ι v v') : Comes P base ι h h w v s :=
 ⟨v', w, .value v', by rw [he]; rfl, .inl rfl, gC.same hr hv⟩
theorem Comes.of {v v' : Value} {w' : World} {s : Sem Value} {t : Sem Next} (ht : t = (s >>= fun x => Pure.pure (Next.value x))) (hs : s.run P w = .ok v' w') (hd : gC base ι h h' w w' v v') : Comes P base ι h h' w v t :=
 ⟨v', w', .value v', by rw [ht]; simp only [Sem.run_bind, hs, Result.andThen_ok, Sem.run_pure], .inl rfl, hd⟩
theorem oW {t : TypeId} {a b : Value} (h : fV P t a b = true) (n : Nat) : bI P (Op.equalIn (n + 1) t a b) = some false := by
 unfold fV at h
 split at h
 all_goals first
  | (rename_i hu; unfold Op.equalIn; rw [bj, show bI P (underlying t) = some _ from (by unfold underlying; rw [bj]; show (some P).bind _ = _; simp only [Option.bind_some, hu]; rfl)]; rfl)
  | cases h
theorem nb {op : BinOp} {t : TypeId} {x y : Operand} {a b : Value} (h : fV P t a b = true) : bI P (eqGuard op t x y a b) = some () := by
 unfold fV at h
 split at h
 all_goals first
  | (cases op <;> rfl)
  | cases h
theorem oV {t : TypeId} {a b a' b' : Value} (h : fV P t a b = true) (ha : aP ι a a') (hb : aP ι b b') : fV P t a' b' = true := by
 unfold fV at h
 split at h
 · rename_i hu
   cases ha <;> first | (simp [aX] at *; done) | (cases hb with | atom q => unfold fV; rw [hu])
 · rename_i hu
   cases hb <;> first | (simp [aX] at *; done) | (cases ha with | atom q => unfold fV; rw [hu])
 · rename_i hu
   cases ha <;> first | (simp [aX] at *; done) | (cases hb with | atom q => unfold fV; rw [hu])
 · rename_i hu
   cases hb <;> first | (simp [aX] at *; done) | (cases ha with | atom q => unfold fV; rw [hu])
 · cases h
theorem tI {o : Oper} {ρ ρ' : Operand → Value} {v : Value} (hv : oh P o ρ = some v) (hρ : ∀ x ∈ o.op.operands, aP ι (ρ x) (ρ' x)) : (execOp ρ' o).run P w = .ok (.value v) w ∧ aX v = true := by
 obtain ⟨dst, op, type, pos, after, guard⟩ := o
 unfold oh at hv
 simp only at hv hρ
 split at hv
 · rename_i t x y u
   split at hv
   · rename_i hn
     obtain rfl := Option.some.inj hv
     have hr := oV hn (hρ x (by simp [Op.operands])) (hρ y (by simp [Op.operands]))
     refine ⟨lh ?_ w, rfl⟩
     show bI P ((do eqGuard .eql t x y (ρ' x) (ρ' y); binOp .eql t (ρ' x) (ρ' y)) >>= fun v => pure (Next.value v)) = _
     have e : binOp .eql t (ρ' x) (ρ' y) = (Op.equalIn (9999 + 1) t (ρ' x) (ρ' y) >>= fun r => pure (.bool r)) := by
      unfold fV at hr
      split at hr
      all_goals first | (rename_i h1 h2; rw [h1, h2]; rfl) | rfl | cases hr
     rw [bj, bj, nb hr]
     simp only [Option.bind_some]
     rw [e, bj, oW hr]
     rfl
   · cases hv
 · rename_i t x y u
   split at hv
   · rename_i hn
     obtain rfl := Option.some.inj hv
     have hr := oV hn (hρ x (by simp [Op.operands])) (hρ y (by simp [Op.operands]))
     refine ⟨lh ?_ w, rfl⟩
     show bI P ((do eqGuard .neq t x y (ρ' x) (ρ' y); binOp .neq t (ρ' x) (ρ' y)) >>= fun v => pure (Next.value v)) = _
     have e : binOp .neq t (ρ' x) (ρ' y) = (Op.equalIn (9999 + 1) t (ρ' x) (ρ' y) >>= fun r => pure (.bool (!r))) := by
      unfold fV at hr
      split at hr
      all_goals first | (rename_i h1 h2; rw [h1, h2]; rfl) | rfl | cases hr
     rw [bj, bj, nb hr]
     simp only [Option.bind_some]
     rw [e, bj, oW hr]
     rfl
   · cases hv
 · cases hv
theorem tL {o : Oper} {ρ ρ' : Operand → Value} {v : Value} (hv : eC P o ρ = some v) (hρ : ∀ x ∈ o.op.operands, aP ι (ρ x) (ρ' x)) : (execOp ρ' o).run P w = .ok (.value v) w ∧ aX v = true := by
 unfold eC at hv
 split at hv
 · rename_i hall
   split at hv
   · rename_i u hu
     split at hv
     · rename_i hp
       injection hv with hv; subst hv
       refine ⟨?_, hp⟩
       have hsame : ∀ x ∈ o.op.operands, ρ' x = ρ x := fun x hx => (hρ x hx).plain (Array.all_eq_true_iff_forall_mem.1 hall x hx)
       by_cases hsel : ∃ cs b, o.op = .select cs b
       · obtain ⟨cs, b, hs⟩ := hsel
         exfalso
         obtain ⟨dst, op, type, pos, after, guard⟩ := o
         simp only at hs
         subst hs
         simp only [execOp, bj] at hu
         cases hm : bI P (cs.mapM fun s => do pure { chan := ρ s.chan, send := s.send.map ρ, zero := ← zeroValue s.elem : CommCase }) with
         | none => rw [hm] at hu; cases hu
         | some x => rw [hm] at hu; cases hu
       · rw [execOp_congr o (fun cs b hs => hsel ⟨cs, b, hs⟩) hsame]
         exact lh hu w
     · cases hv
   · cases hv
 · exact tI hv hρ
theorem lT {o : Oper} {s : bN} {ρ : Operand → Value} {v : Value} (hr : bn base ι s.h w) (hv : (eC P o s.ev).map (·, s.h) = some (v, h')) (hρ : ∀ x ∈ o.op.operands, aP ι (s.ev x) (ρ x)) :
  Comes P base ι s.h h' w v (execOp ρ o) := by
 cases hs : eC P o s.ev with
 | none => rw [hs] at hv; cases hv
 | some u =>
  rw [hs] at hv
  injection hv with hv; injection hv with h1 h2; subst h1 h2
  obtain ⟨h3, h4⟩ := tL (w := w) hs hρ
  exact ⟨u, w, _, h3, .inl rfl, gC.same hr (.atom h4)⟩
theorem dN {α : Type} {o : Option α} {g : ai} {v : α} {h' : ai} (hv : o.map (·, g) = some (v, h')) : o = some v ∧ h' = g := by
 cases o with
 | none => cases hv
 | some x => injection hv with hv; injection hv with h1 h2; subst h1 h2; exact ⟨rfl, rfl⟩
theorem pj {parts : Array (Nat × Operand)} {f g : Operand → Value} (hf : ∀ p ∈ parts, aP ι (f p.2) (g p.2)) :
  (parts.map fun (i, x) => (i, g x)).size = (parts.map fun (i, x) => (i, f x)).size ∧
  ∀ (i : Nat) (p p' : Nat × Value), (parts.map fun (i, x) => (i, f x))[i]? = some p → (parts.map fun (i, x) => (i, g x))[i]? = some p' → p'.1 = p.1 ∧ aP ι p.2 p'.2 := by
 refine ⟨by simp, fun i p p' hp hp' => ?_⟩
 simp only [Array.getElem?_map] at hp hp'
 cases hq : parts[i]? with
 | none => rw [hq] at hp; cases hp
 | some q =>
  rw [hq] at hp hp'
  simp only [Option.map_some, Option.some.injEq] at hp hp'
  subst hp hp'
  exact ⟨rfl, hf q (Array.mem_of_getElem? hq)⟩
theorem pw {ps : Array (Nat × Operand)} {p : Nat × Operand} (hp : p ∈ ps) : p.2 ∈ (ps.toList.map (·.2)).toArray := by
 rw [List.mem_toArray]
 exact List.mem_map.2 ⟨p, Array.mem_toList_iff.2 hp, rfl⟩
theorem qi {a : Value} {b : UInt8} (h : byteOf a = some b) : aX a = true := by
 unfold byteOf at h
 split at h
 · rfl
 · cases h
theorem ri : ∀ (l : List Value) (s0 s1 : ByteArray), strOf l s0 = some s1 → ∀ y ∈ l, aX y = true := by
 intro l
 induction l with
 | nil => intro s0 s1 _ y hy; simp at hy
 | cons a l ih =>
  intro s0 s1 hl y hy
  unfold strOf at hl
  cases hb : byteOf a with
  | none => rw [hb] at hl; cases hl
  | some b =>
   rw [hb] at hl
   rcases List.mem_cons.1 hy with rfl | hy
   · exact qi hb
   · exact ih _ _ hl y hy
theorem r8 (f : Value → ByteArray → Sem (ForInStep ByteArray)) (hf : ∀ n s, f (.int .u8 n) s = pure (ForInStep.yield (s.push (UInt8.ofNat n.toNat)))) :
  ∀ (l : List Value) (s0 s1 : ByteArray), strOf l s0 = some s1 → (forIn l s0 f).run P w = .ok s1 w := by
 intro l
 induction l with
 | nil => intro s0 s1 hl; injection hl with hl; subst hl; rfl
 | cons a l ih =>
  intro s0 s1 hl
  unfold strOf at hl
  cases hb : byteOf a with
  | none => rw [hb] at hl; cases hl
  | some b =>
   rw [hb] at hl
   unfold byteOf at hb
   split at hb
   · injection hb with hb
     subst hb
     rw [List.forIn_cons]
     simp only [hf, Sem.run_bind, Sem.run_pure, Result.andThen_ok]
     exact ih _ _ hl
   · cases hb
theorem x5 (hr : bn base ι h w) (hbase : base ≤ w.heap.size) {t u : TypeId} {x x' v : Value} (hv : rI h x = some (v, h')) (hx : aP ι x x') (hc : jg P t u = true) :
  ∃ v' w', (convert t u x').run P w = .ok v' w' ∧ gC base ι h h' w w' v v' := by
 unfold rI at hv
 split at hv
 · rename_i s
   injection hv with hv; injection hv with h1 h2; subst h1 h2
   obtain rfl := hx.plain rfl
   unfold jg at hc
   split at hc
   · rename_i e hu1 hu2
     split at hc
     · rename_i hu3
       have hrun := run_bytes_of_string (P := P) w t u e s hu1 hu2 hu3
       have hcap : s.size ≤ grownCap w s.size 0 e := by
        unfold grownCap Question.cut
        simp only
        omega
       generalize grownCap w s.size 0 e = cap at hrun hcap
       generalize hcs : bytesRow s cap = cs' at hrun
       have hsz : cs'.size = cap := by
        rw [← hcs]
        unfold bytesRow
        have : s.data.size = s.size := rfl
        simp [this]
        omega
       have hcell : ∀ i, i < cap → (w.drew.alloc (.cells cs' e (cs'.size, cs'.size + 1))).cell? ⟨w.heap.size, 0 + i, none⟩ = cs'[i]? ∧ (w.drew.alloc (.cells cs' e (cs'.size, cs'.size + 1))).frozen? ⟨w.heap.size, 0 + i, none⟩ = false := by
        intro i hi
        have hb : (w.drew.alloc (.cells cs' e (cs'.size, cs'.size + 1))).heap[w.heap.size]? = some (.cells cs' e (cs'.size, cs'.size + 1)) := by
         show (w.heap.push _)[w.heap.size]? = _
         simp
        refine ⟨?_, ?_⟩
        · simp only [World.cell?, hb]; simp
        · simp only [World.frozen?, hb]; simp; omega
       have hlen : (s.data.toList.map fun b => Value.int .u8 b.toNat).length = s.size := by simp
       have hT : eJ w (w.drew.alloc (.cells cs' e (cs'.size, cs'.size + 1))) fun _ _ => False := eJ.push w _ _
       obtain ⟨r1, r2, r3⟩ := vD hr hbase (cn := s.data.toList.map fun b => Value.int .u8 b.toNat) (sz := 1) (en := ⟨w.heap.size, 0, cap, 1, false⟩) hT ⟨Nat.le_refl _, by show w.heap.size < (w.heap.push _).size; rw [Array.size_push]; omega⟩ rfl (by rw [hlen]; exact hcap)
        (fun y hy => by obtain ⟨b, _, rfl⟩ := List.mem_map.1 hy; rfl) (fun i v hi => by
         have hil := (List.getElem?_eq_some_iff.1 hi).1
         rw [hlen] at hil
         refine ⟨v, ?_, .atom ?_⟩
         · rw [(hcell i (by omega)).1, ← hcs]
           unfold bytesRow
           rw [Array.getElem?_append_left (by simpa using hil), ← hi, ← Array.getElem?_toList]
           simp
         · rw [List.getElem?_map] at hi
           obtain ⟨b, _, rfl⟩ := Option.map_eq_some_iff.1 hi
           rfl) (fun i hi => by
         simp only at hi
         exact ⟨⟨cs'[i], by rw [(hcell i hi).1]; exact Array.getElem?_eq_getElem (by omega)⟩, (hcell i hi).2⟩)
       refine ⟨_, _, hrun, _, r3, ?_, r1, r2⟩
       exact .slice (e := ⟨w.heap.size, 0, cap, 1, false⟩) (o := 0) (by simp [Lay.add]) rfl hcap (by simp)
     · cases hc
   · cases hc
 · cases hv
theorem uC (hr : bn base ι h w) (hbase : base ≤ w.heap.size) (t : TypeId) :
  ∃ v' w', (Instr.makeMap t none).run P w = .ok v' w' ∧ gC base ι h (h.new (.cells 2 false h.n none 0 [.int .i64 0])) w w' (.map (some h.n)) v' := by
 have hb : (w.heap.push (.map #[] 0))[w.heap.size]? = some (.map #[] 0) := by simp
 obtain ⟨r1, r2, r3⟩ := pJ hr hbase (w' := { w with heap := w.heap.push (.map #[] 0), drawn := w.drawn }) (cn := [.int .i64 0]) (sz := 2) (en := ⟨w.heap.size, 0, 0, 2, true⟩) (eJ.push w _ _) ⟨Nat.le_refl _, by show w.heap.size < (w.heap.push _).size; rw [Array.size_push]; omega⟩ rfl (fun q => by cases q) (fun q => by cases q) (fun q => by cases q) (fun i hi => by simp at hi)
  (fun _ => ⟨#[], 0, hb, [], rfl, .nil, fun en hen => by simp at hen, List.Pairwise.nil⟩)
 refine ⟨.map (some w.heap.size), _, rfl, _, r3, ?_, r1, r2⟩
 exact .map (e := ⟨w.heap.size, 0, 0, 2, true⟩) (by simp [Lay.add]) rfl
theorem sL {kd : IntKind} {j : IntKind} {k : Int} {c : List Value} {es : List MapEntry} (hp : cL ι c es) : ∀ i0, 
  (iG j k c = some none → Instr.findNow (.int kd) (.int j k) es i0 = some none) ∧
  (∀ v, iG j k c = some (some v) → ∃ i v', Instr.findNow (.int kd) (.int j k) es i0 = some (some (i, v')) ∧ aP ι v v') := by
 induction hp with
 | nil => exact fun i0 => ⟨fun _ => rfl, fun v h => by cases h⟩
 | @cons key v c e es h1 h2 h3 _ ih =>
  intro i0
  have hk : ∀ {x}, iG j k (key :: .int .i64 e.born :: v :: c) = some x → ∃ n, key = .int j n := by
   intro x hx
   unfold iG at hx
   split at hx
   · rename_i q; simp at q
   · rename_i j' n _ v' r q
     injection q with q1 q2
     injection q2 with q3 q4
     split at hx
     · rename_i q5; exact ⟨n, by rw [q1, q5]⟩
     · cases hx
   · cases hx
  have step : ∀ n, key = .int j n → Instr.findNow (.int kd) (.int j k) (e :: es) i0 = if k = n then some (some (i0, e.val)) else Instr.findNow (.int kd) (.int j k) es (i0 + 1) := by
   intro n hn
   show (match Instr.sameNow (.int kd) (.int j k) e.key with | some true => some (some (i0, e.val)) | some false => Instr.findNow (.int kd) (.int j k) es (i0 + 1) | none => none) = _
   rw [h1, hn]
   have : Instr.sameNow (.int kd) (.int j k) (.int j n) = some (k == n) := by unfold Instr.sameNow; simp
   rw [this]
   by_cases q : k = n
   · subst q; simp
   · rw [if_neg q]
     have : (k == n) = false := by simpa using q
     rw [this]
  refine ⟨fun h => ?_, fun u h => ?_⟩
  · obtain ⟨n, hn⟩ := hk h
    rw [step n hn]
    rw [hn] at h
    unfold iG at h
    rw [if_pos rfl] at h
    split at h
    · cases h
    · rename_i q; rw [if_neg q]; exact (ih (i0 + 1)).1 h
  · obtain ⟨n, hn⟩ := hk h
    rw [step n hn]
    rw [hn] at h
    unfold iG at h
    rw [if_pos rfl] at h
    split at h
    · rename_i q
      injection h with h; injection h with h
      subst h
      rw [if_pos q]
      exact ⟨i0, e.val, rfl, h3⟩
    · rename_i q; rw [if_neg q]; exact (ih (i0 + 1)).2 u h
theorem nv {t e : TypeId} (h : pZ P t = some e) : ∃ k kd, P.underlying t = some (.map k e) ∧ P.underlying k = some (.int kd) := by
 unfold pZ at h
 split at h
 · rename_i k e' h1
   split at h
   · rename_i kd h2
     injection h with h; subst h
     exact ⟨k, kd, h1, h2⟩
   · cases h
 · cases h
theorem gi {k : TypeId} {kd : IntKind} (hk : P.underlying k = some (.int kd)) (em : Bool) (n : Nat) (v : Value) (w : World) : (Instr.checkKey em (n + 1) k v).run P w = .ok () w := by
 unfold Instr.checkKey
 simp only [Sem.run_bind, bF hk, Result.andThen_ok]
 rfl
theorem iq {k : TypeId} {kd : IntKind} (hk : P.underlying k = some (.int kd)) {x : Value} {es : List MapEntry} {r : Option (Nat × Value)} (h : Instr.findNow (.int kd) x es 0 = some r) (w : World) : (Instr.findKey k x es).run P w = .ok r w := by
 unfold Instr.findKey
 simp only [Sem.run_bind, bF hk, Result.andThen_ok, h]
 rfl
theorem qn {v v' : Value} (h : aP ι v v') (ok b : Bool) : aP ι (wg ok v b) (wg ok v' b) := by
 unfold wg
 split
 · refine .tuple rfl fun i x y hx hy => ?_
   rcases i with _ | _ | i
   · simp at hx hy; subst hx hy; exact h
   · simp at hx hy; subst hx hy; exact .atom rfl
   · simp at hx
 · exact h
theorem rh {t : TypeId} {z : Value} (hz : zeroOf P t = some z) : aP ι z z := by
 have hz2 := (gx hz (default : World)).2
 cases z <;> first | exact .const hz2 | exact .atom (by simpa [Value.cells] using hz2)
theorem ua (hr : bn base ι h w) {t : TypeId} {x x' i i' v : Value} {ok : Bool} (hv : jf P h t x i ok = some v) (hx : aP ι x x') (hi : aP ι i i') : ∃ v', (Instr.lookup t x' i' ok).run P w = .ok v' w ∧ aP ι v v' := by
 unfold jf at hv
 split at hv
 · rename_i e he
   obtain ⟨kt, kd, h1, h2⟩ := nv he
   split at hv
   · rename_i z j k hz
     injection hv with hv; subst hv
     obtain rfl := hx.plain rfl
     obtain rfl := hi.plain rfl
     refine ⟨wg ok z false, ?_, qn (rh hz) ok false⟩
     have hf : Instr.findNow (.int kd) (.int j k) [] 0 = some none := rfl
     have hf' : (Instr.findKey kt (.int j k) (#[] : Array MapEntry).toList).run P w = .ok none w := iq (P := P) h2 hf w
     simp only [Instr.lookup, Sem.run_bind, bF h1, Result.andThen_ok, Sem.run_pure, gi h2, hf', (gx hz w).1]
     rfl
   · rename_i z j k b hz
     split at hv
     · rename_i ck c hc
       obtain rfl := hi.plain rfl
       have hx' : ∃ e, ι b = some e ∧ e.mp = true ∧ x' = .map (some e.block) := by
        cases hx with
        | atom q => simp [aX] at q
        | map q1 q2 => exact ⟨_, q1, q2, rfl⟩
       obtain ⟨ex, hex, hmp, rfl⟩ := hx'
       have hob : ∃ sz ro f st n, h.o b = .cells sz ro f st n (.int .i64 ck :: c) := by
        rcases tv hc with ⟨a1, a2, a3, a4, a5, a6⟩
        exact ⟨_, _, _, _, _, a6⟩
       obtain ⟨_, _, _, _, _, hob⟩ := hob
       obtain ⟨_, es, clock, hes, _, hq0, hp, _, _⟩ := hr.maps b ex _ _ _ _ _ _ hex hmp hob
       injection hq0 with _ hq0; subst hq0
       have hobj : (getObj ex.block).run P w = .ok (.map es clock) w := by
        simp only [getObj, Sem.run]
        rw [hes]
       split at hv
       · rename_i u hg
         injection hv with hv; subst hv
         obtain ⟨idx, u', hf, hu⟩ := (sL (kd := kd) hp 0).2 u hg
         have hf' := iq (P := P) h2 hf w
         refine ⟨wg ok u' true, ?_, qn hu ok true⟩
         simp only [Instr.lookup, Sem.run_bind, bF h1, Result.andThen_ok, hobj, Sem.run_pure, gi h2, hf']
         rfl
       · rename_i hg
         injection hv with hv; subst hv
         have hf := (sL (kd := kd) hp 0).1 hg
         have hf' := iq (P := P) h2 hf w
         refine ⟨wg ok z false, ?_, qn (rh hz) ok false⟩
         simp only [Instr.lookup, Sem.run_bind, bF h1, Result.andThen_ok, hobj, Sem.run_pure, gi h2, hf', (gx hz w).1]
         rfl
       · cases hv
     · cases hv
   · cases hv
 · cases hv
theorem yk {h : ai} (hr : bn base ι h w) {x x' v : Value} (hst : ry h x = some v) (hx : aP ι x x') : ∃ str, (Conv.bytesToString x').run P w = .ok (.string str) w ∧ v = .string str := by
 unfold ry at hst
 split at hst
 · rename_i A n c
   split at hst
   · rename_i m cs hsrc
     obtain ⟨str, hstr, rfl⟩ := Option.map_eq_some_iff.1 hst
     obtain ⟨q1, q2, q3, new', q4, q5, q6⟩ := vp (P := P) hr hsrc hx
     have hcs : new'.toList = cs := by
      apply List.ext_getElem?
      intro i
      rcases Nat.lt_or_ge i cs.length with hi | hi
      · have h1 : cs[i]? = some cs[i] := List.getElem?_eq_getElem hi
        have hi' : i < new'.size := by omega
        have h2 : new'[i]? = some new'[i] := Array.getElem?_eq_getElem hi'
        rw [Array.getElem?_toList, h1, h2, (q5 i _ _ h1 h2).plain (ri cs _ _ hstr _ (List.getElem_mem hi))]
      · rw [List.getElem?_eq_none hi, Array.getElem?_toList, Array.getElem?_eq_none (by omega)]
     have hrun := q6 w fun B o u hu => hu
     have main : ∀ a l c', x' = .slice (some a) l c' → l = m → (Conv.bytesToString x').run P w = .ok (.string str) w := by
      intro a l c' e e2
      subst e e2
      have hl : (loadCells a l).run P w = .ok new' w := by simpa [Builtin.firstCells] using hrun
      simp only [Conv.bytesToString, Sem.run_bind, hl, Result.andThen_ok]
      rw [← Array.forIn_toList, hcs, r8 _ (fun n s => rfl) cs _ _ hstr]
      rfl
     refine ⟨str, ?_, rfl⟩
     have hnm : A ≠ none → n = m := by
      intro hA
      cases A with
      | none => exact absurd rfl hA
      | some a =>
       unfold iX at hsrc
       split at hsrc
       · rename_i e; cases e
       · rename_i e
         injection e with _ e2 _
         split at hsrc
         · split at hsrc
           · injection hsrc with hsrc; injection hsrc with e3 _; omega
           · cases hsrc
         · cases hsrc
       · rename_i e; cases e
       · cases hsrc
     cases hx with
     | atom hp =>
      cases A with
      | some a => simp [aX] at hp
      | none =>
       unfold iX at hsrc
       split at hsrc
       · injection hsrc with hsrc; injection hsrc with e1 e2
         subst e2
         injection hstr with hstr
         subst hstr
         rfl
       · rename_i e; cases e
       · rename_i e; cases e
       · cases hsrc
     | slice h1 h2 h3 => exact main _ _ _ rfl (hnm (by simp))
     | eu h1 => exact main _ _ _ rfl (hnm (by simp))
   · cases hst
 · cases hst
theorem x7 {o : Oper} {s : bN} {v : Value} {ρ : Operand → Value} (hv : eg P o s = some (v, h')) (hr : bn base ι s.h w) (hbase : base ≤ w.heap.size) (hρ : ∀ x ∈ o.op.operands, aP ι (s.ev x) (ρ x)) :
  Comes P base ι s.h h' w v (execOp ρ o) := by
 have hv0 := hv
 unfold eg at hv
 simp only at hv
 obtain ⟨dst, op, type, pos, after, guard⟩ := o
 simp only at hρ hv
 split at hv
 ·
   rename_i x
   injection hv with hv; injection hv with h1 h2; subst h1 h2
   exact Comes.pure (hr := hr) rfl (hρ x (by simp [Op.operands]))
 · rename_i x
   injection hv with hv; injection hv with h1 h2; subst h1 h2
   exact Comes.pure (hr := hr) rfl (hρ x (by simp [Op.operands]))
 ·
   rename_i c a b
   have hc := hρ c (by simp [Op.operands])
   split at hv
   · rename_i hb
     injection hv with hv; injection hv with h1 h2; subst h1 h2
     rw [hb] at hc
     have hc' := hc.plain rfl
     exact ⟨ρ a, w, .value (ρ a), by simp only [execOp, hc', asBool, Sem.run_bind, Sem.run_pure, Result.andThen_ok, if_true], .inl rfl, gC.same hr (hρ a (by simp [Op.operands]))⟩
   · rename_i hb
     injection hv with hv; injection hv with h1 h2; subst h1 h2
     rw [hb] at hc
     have hc' := hc.plain rfl
     exact ⟨ρ b, w, .value (ρ b), by simp only [execOp, hc', asBool, Sem.run_bind, Sem.run_pure, Result.andThen_ok, Bool.false_eq_true, if_false], .inl rfl, gC.same hr (hρ b (by simp [Op.operands]))⟩
   · cases hv
 ·
   rename_i t
   cases hz : zeroOf P t with
   | none => rw [hz] at hv; cases hv
   | some z =>
    rw [hz] at hv
    injection hv with hv; injection hv with h1 h2; subst h1 h2
    obtain ⟨hz1, hz2⟩ := gx hz w
    have hrel : aP ι z z := by
     cases z <;> first | exact .const hz2 | exact .atom (by simpa [Value.cells] using hz2)
    have hcell : z.cells.all cI = true := by
     rw [Array.all_eq_true_iff_forall_mem] at hz2 ⊢
     intro x hx
     have := hz2 x hx
     revert this
     cases x <;> simp [aX, cI]
    obtain ⟨v', w', hrun, hd⟩ := sR (P := P) (el := t) hr hbase hrel hcell
    refine Comes.of (s := Instr.alloc t true (.tuple #[])) rfl (v' := v') ?_ hd
    simp only [Instr.alloc, Sem.run_bind, hz1, Result.andThen_ok]
    exact hrun
 ·
   rename_i t x
   split at hv
   · rename_i hc
     injection hv with hv; injection hv with h1 h2; subst h1 h2
     obtain ⟨v', w', hrun, hd⟩ := sR (P := P) (el := t) hr hbase (hρ x (by simp [Op.operands])) hc
     exact Comes.of (s := Instr.box t (ρ x)) rfl hrun hd
   · cases hv
 ·
   rename_i t parts
   obtain ⟨hb, rfl⟩ := dN hv
   obtain ⟨p1, p2⟩ := pj (ι := ι) (parts := parts) (f := s.ev) (g := ρ) fun p hp => hρ p.2 (pw hp)
   obtain ⟨v', hrun, hv'⟩ := u9 (w := w) hb p1 p2
   exact Comes.of rfl hrun (gC.same hr hv')
 ·
   rename_i t len parts
   obtain ⟨p1, p2⟩ := pj (ι := ι) (parts := parts) (f := s.ev) (g := ρ) fun p hp => hρ p.2 (pw hp)
   obtain ⟨v', w', hrun, hd⟩ := x9 hr hbase hv p1 p2
   exact Comes.of rfl hrun hd
 ·
   rename_i t x
   split at hv
   · rename_i b off hb
     obtain ⟨hl, rfl⟩ := dN hv
     have hx := hρ x (by simp [Op.operands])
     rw [hb] at hx
     obtain ⟨e, he, hmp, hx'⟩ := hx.kL
     obtain ⟨v', hrun, hv'⟩ := sO (P := P) hr he hmp hl
     refine Comes.of (s := Instr.loadAt t (ρ x)) rfl (v' := v') ?_ (gC.same hr hv')
     simp only [Instr.loadAt, hx', Instr.sureAddr, Sem.run_bind, Sem.run_pure, Result.andThen_ok]
     exact hrun
   · cases hv
 ·
   rename_i t x y
   split at hv
   · rename_i b off hb
     have hx := hρ x (by simp [Op.operands])
     rw [hb] at hx
     obtain ⟨e, he, hmp, hx'⟩ := hx.kL
     cases hst : gg P s.h t b off (s.ev y) with
     | none => rw [hst] at hv; cases hv
     | some h1 =>
      rw [hst] at hv
      injection hv with hv; injection hv with e1 e2; subst e1 e2
      obtain ⟨w', hrun, r1, r2, r3⟩ := vb (P := P) hr he hmp hst (hρ y (by simp [Op.operands]))
      refine ⟨Go.undef, w', .skip, ?_, .inr ⟨rfl, rfl⟩, ι, r3, aP.undef, r1, r2⟩
      simp only [execOp, Instr.storeAt, hx', Instr.sureAddr, Sem.run_bind, Sem.run_pure, Result.andThen_ok]
      rw [hrun]; rfl
   · cases hv
 ·
   rename_i t
   injection hv with hv; injection hv with h1 h2; subst h1 h2
   obtain ⟨v', w', hrun, hd⟩ := uC (P := P) hr hbase t
   exact Comes.of (s := Instr.makeMap t none) rfl hrun hd
 ·
   rename_i t x i ok
   obtain ⟨hl, rfl⟩ := dN hv
   obtain ⟨v', hrun, hv'⟩ := ua (P := P) hr hl (hρ x (by simp [Op.operands])) (hρ i (by simp [Op.operands]))
   exact Comes.of (s := Instr.lookup t (ρ x) (ρ i) ok) rfl hrun (gC.same hr hv')
 ·
   rename_i x
   split at hv
   · rename_i a hb
     injection hv with hv; injection hv with h1 h2; subst h1 h2
     have hx := hρ x (by simp [Op.operands])
     rw [hb] at hx
     generalize hvx : ρ x = vx at hx
     cases hx with
     | atom h => simp [aX] at h
     | ptr he h0 => exact Comes.pure (hr := hr) (by simp only [execOp, hvx]) (.ptr he h0)
   · cases hv
 ·
   rename_i f first captured
   injection hv with hv; injection hv with h1 h2; subst h1 h2
   refine Comes.pure (hr := hr) (v' := .func (.func f) (first.map ρ) (captured.map ρ)) rfl ?_
   obtain ⟨a1, a2⟩ := fS.map (ι := ι) (f := s.ev) (g := ρ) (xs := first) fun x hx => hρ x (by simp [Op.operands, hx])
   obtain ⟨b1, b2⟩ := fS.map (ι := ι) (f := s.ev) (g := ρ) (xs := captured) fun x hx => hρ x (by simp [Op.operands, hx])
   exact .func a1.symm a2 b1.symm b2
 ·
   rename_i t n c
   split at hv
   · rename_i a b hn hc
     split at hv
     · rename_i hab
       subst hab
       have hx := hρ n (by simp [Op.operands])
       have hy := hρ c (by simp [Op.operands])
       rw [hn] at hx
       rw [hc] at hy
       obtain ⟨v', w', hrun, hd⟩ := wV hr hbase hv
       refine Comes.of (s := Instr.makeSlice t (ρ n) (ρ c)) rfl (v' := v') ?_ hd
       rw [hx.plain rfl, hy.plain rfl]; exact hrun
     · cases hv
   · cases hv
 ·
   rename_i t x lo hi
   obtain ⟨hsl, rfl⟩ := dN hv
   have ho : ∀ (o : Option Operand), (∀ x, o = some x → aP ι (s.ev x) (ρ x)) → vy ι (o.map s.ev) (o.map ρ) := by
    intro o ho
    cases o with
    | none => trivial
    | some x => exact ho x rfl
   obtain ⟨v', hrun, hv'⟩ := vO (P := P) hr hsl (hρ x (by simp [Op.operands])) (ho lo fun y hy => hρ y (by simp [Op.operands, hy])) (ho hi fun y hy => hρ y (by simp [Op.operands, hy]))
   exact Comes.of rfl hrun (gC.same hr hv')
 ·
   rename_i t x f
   obtain ⟨hf, rfl⟩ := dN hv
   obtain ⟨v', hrun, hv'⟩ := ur (w := w) hf (hρ x (by simp [Op.operands]))
   exact Comes.of rfl hrun (gC.same hr hv')
 · rename_i t x f
   obtain ⟨hf, rfl⟩ := dN hv
   obtain ⟨v', hrun, hv'⟩ := si (w := w) hf (hρ x (by simp [Op.operands]))
   exact Comes.of rfl hrun (gC.same hr hv')
 · rename_i t x i
   obtain ⟨hf, rfl⟩ := dN hv
   obtain ⟨v', hrun, hv'⟩ := tW (w := w) hf (hρ x (by simp [Op.operands])) (hρ i (by simp [Op.operands]))
   exact Comes.of rfl hrun (gC.same hr hv')
 ·
   rename_i x i
   split at hv
   · rename_i vs hb
     obtain ⟨hf, rfl⟩ := dN hv
     have hx := hρ x (by simp [Op.operands])
     rw [hb] at hx
     generalize hvx : ρ x = vx at hx
     cases hx with
     | atom h => simp [aX] at h
     | tuple h1 h2 =>
      rename_i ys
      obtain ⟨hi, _⟩ := Array.getElem?_eq_some_iff.1 hf
      have hi' : i < ys.size := by omega
      refine Comes.of (s := Instr.extract (ρ x) i) rfl (v' := ys[i]) ?_ (gC.same hr (h2 i v _ hf (Array.getElem?_eq_getElem hi')))
      rw [hvx]
      simp only [Instr.extract, Array.getElem?_eq_getElem hi', Sem.run_pure]
   · cases hv
 ·
   rename_i t u x
   split at hv
   · rename_i hc
     obtain ⟨hst, rfl⟩ := dN hv
     obtain ⟨str, hrun, rfl⟩ := yk (P := P) hr hst (hρ x (by simp [Op.operands]))
     refine Comes.of (s := convert t u (ρ x)) rfl (v' := .string str) ?_ (gC.same hr (.atom rfl))
     unfold iw at hc
     split at hc
     · rename_i e hu1 hu2
       split at hc
       · rename_i hu3
         have hx2 : ∃ a n c, ρ x = .slice a n c := by
          unfold ry at hst
          split at hst
          · rename_i A n c hsx
            have hx := hρ x (by simp [Op.operands])
            rw [hsx] at hx
            generalize ρ x = vx at hx
            cases hx with
            | atom h => exact ⟨_, _, _, rfl⟩
            | slice => exact ⟨_, _, _, rfl⟩
            | eu => exact ⟨_, _, _, rfl⟩
          · cases hst
         obtain ⟨a0, n0, c0, hx3⟩ := hx2
         rw [hx3] at hrun ⊢
         simp only [convert, Sem.run_bind, bF hu1, bF hu2, bF hu3, Result.andThen_ok]
         exact hrun
       · cases hc
     · cases hc
   · split at hv
     · rename_i hc
       obtain ⟨v', w', hrun, hd⟩ := x5 (P := P) hr hbase hv (hρ x (by simp [Op.operands])) hc
       exact Comes.of (s := convert t u (ρ x)) rfl (v' := v') hrun hd
     · exact lT hr hv hρ
 ·
   rename_i args argTypes
   split at hv
   · rename_i x t ha ht
     obtain ⟨hl, rfl⟩ := dN hv
     obtain rfl : args = #[x] := Array.toList_inj.1 ha
     obtain rfl : argTypes = #[t] := Array.toList_inj.1 ht
     have hrel := hρ x (by simp [Op.operands, Call.operands])
     unfold xn at hl
     split at hl
     · rename_i e A n c hu hs
       injection hl with hl; subst hl
       rw [hs] at hrel
       have hex : ∃ A' c', ρ x = .slice A' n c' := by
        generalize ρ x = vx at hrel
        cases hrel with
        | atom h => exact ⟨_, _, rfl⟩
        | slice => exact ⟨_, _, rfl⟩
        | eu => exact ⟨_, _, rfl⟩
       obtain ⟨A', c', hex⟩ := hex
       refine ⟨_, w, .value (.int .i64 n), ?_, .inl rfl, gC.same hr (.atom rfl)⟩
       simp [execOp, resolve, invoke, builtin, Builtin.len_, hex, bF hu, goInt]
     · rename_i st hu hs
       injection hl with hl; subst hl
       rw [hs] at hrel
       refine ⟨_, w, .value (.int .i64 st.size), ?_, .inl rfl, gC.same hr (.atom rfl)⟩
       simp [execOp, resolve, invoke, builtin, Builtin.len_, hrel.plain rfl, bF hu, goInt]
     · cases hl
   · cases hv
 ·
   rename_i args argTypes
   split at hv
   · rename_i x y t u ha ht
     obtain rfl : args = #[x, y] := Array.toList_inj.1 ha
     obtain rfl : argTypes = #[t, u] := Array.toList_inj.1 ht
     split at hv
     · rename_i hrow
       have hx : ∃ xt d, (#[t, u] : Array TypeId)[1]? = some xt ∧ P.underlying xt = some d ∧ ((∃ e', d = .slice e') ∨ d = .string) := by
        unfold fq at hrow
        split at hrow
        · rename_i e hu; exact ⟨u, _, rfl, hu, .inl ⟨e, rfl⟩⟩
        · rename_i hu; exact ⟨u, _, rfl, hu, .inr rfl⟩
        · cases hrow
       obtain ⟨v', w', hrun, hd⟩ := uG (args := #[t, u]) (ty := type) hr hbase hv (hρ x (by simp [Op.operands, Call.operands])) (hρ y (by simp [Op.operands, Call.operands])) rfl hx
       refine ⟨v', w', .value v', ?_, .inl rfl, hd⟩
       simp only [execOp, resolve, invoke, builtin, Sem.run_bind, Sem.run_pure, Result.andThen_ok, List.map_toArray, List.map_cons, List.map_nil, hrun]
     · cases hv
   · cases hv
 · cases hv
 · cases hv
 · exact lT hr hv hρ
end Go.Proofs.YthekokdpplobhaaGreat.Eng
set_option linter.unusedVariables false
set_option linter.unusedSimpArgs false
namespace Go.Proofs.YthekokdpplobhaaGreat.Eng
variable {P : Program} {base : Nat} {ι : Lay} {h h' : ai} {w : World}
theorem lZ {kd j : IntKind} {k n : Int} {e : MapEntry} {es : List MapEntry} {i0 : Nat} (h : e.key = .int j n) :
  Instr.findNow (.int kd) (.int j k) (e :: es) i0 = if k = n then some (some (i0, e.val)) else Instr.findNow (.int kd) (.int j k) es (i0 + 1) := by
 show (match Instr.sameNow (.int kd) (.int j k) e.key with | some true => some (some (i0, e.val)) | some false => Instr.findNow (.int kd) (.int j k) es (i0 + 1) | none => none) = _
 rw [h]
 have : Instr.sameNow (.int kd) (.int j k) (.int j n) = some (k == n) := by unfold Instr.sameNow; simp
 rw [this]
 by_cases q : k = n
 · subst q; simp
 · rw [if_neg q]
   have : (k == n) = false := by simpa using q
   rw [this]
theorem xm {kd j : IntKind} {k : Int} {u : Value} {c : List Value} {es : List MapEntry} {ck : Nat} (hp : cL ι c es) : ∀ {q} i0, mD j k u ck c = some q →
  (∃ idx e, Instr.findNow (.int kd) (.int j k) es i0 = some (some (i0 + idx, e.val)) ∧ es[idx]? = some e ∧ e.key = .int j k ∧ q.1 = ck ∧ ∀ u', aP ι u u' → cL ι q.2 (es.modify idx fun e => { e with key := .int j k, val := u' })) ∨
  (Instr.findNow (.int kd) (.int j k) es i0 = some none ∧ q.1 = (ck + 1 : Nat) ∧ ∀ u', aP ι u u' → cL ι q.2 (es ++ [{ key := .int j k, val := u', born := ck }])) := by
 induction hp with
 | nil =>
  intro q i0 h
  injection h with h; subst h
  exact .inr ⟨rfl, rfl, fun u' hu => .cons (e := { key := .int j k, val := u', born := ck }) rfl rfl hu .nil⟩
 | @cons key v c e es h1 h2 h3 hp ih =>
  intro q i0 h
  unfold mD at h
  split at h
  · rename_i q; simp at q
  · rename_i j' n m' v' r q
    injection q with q1 q2
    injection q2 with q3 q4
    injection q4 with q4 q6
    subst q1 q3 q4 q6
    split at h
    · rename_i q5
      subst q5
      rw [lZ h1]
      split at h
      · rename_i q6
        subst q6
        injection h with h; subst h
        rw [if_pos rfl]
        exact .inl ⟨0, e, rfl, rfl, h1, rfl, fun u' hu => .cons (e := { key := .int j k, val := u', born := e.born }) rfl rfl hu hp⟩
      · rename_i q6
        rw [if_neg q6]
        obtain ⟨q1, h4, rfl⟩ := Option.map_eq_some_iff.1 h
        rcases ih (i0 + 1) h4 with ⟨idx, e1, g1, g2, g3, g0, g4⟩ | ⟨g1, g0, g2⟩
        · refine .inl ⟨idx + 1, e1, by rw [g1]; congr 3; omega, by simpa using g2, g3, g0, fun u' hu => ?_⟩
          rw [List.modify_succ_cons]
          exact .cons h1 h2 h3 (g4 u' hu)
        · exact .inr ⟨g1, g0, fun u' hu => .cons h1 h2 h3 (g2 u' hu)⟩
    · cases h
  · cases h
theorem xi {kd j : IntKind} {k : Int} {c : List Value} {es : List MapEntry} (hp : cL ι c es) : ∀ {c'} i0, mC j k c = some c' →
  (∃ idx v, Instr.findNow (.int kd) (.int j k) es i0 = some (some (i0 + idx, v)) ∧ cL ι c' (es.eraseIdx idx)) ∨ (Instr.findNow (.int kd) (.int j k) es i0 = some none ∧ cL ι c' es) := by
 induction hp with
 | nil =>
  intro c' i0 h
  injection h with h; subst h
  exact .inr ⟨rfl, .nil⟩
 | @cons key v c e es h1 h2 h3 hp ih =>
  intro c' i0 h
  unfold mC at h
  split at h
  · rename_i q; simp at q
  · rename_i j' n m' v' r q
    injection q with q1 q2
    injection q2 with q3 q4
    injection q4 with q4 q6
    subst q1 q3 q4 q6
    split at h
    · rename_i q5
      subst q5
      rw [lZ h1]
      split at h
      · rename_i q6
        subst q6
        injection h with h; subst h
        rw [if_pos rfl]
        exact .inl ⟨0, e.val, rfl, hp⟩
      · rename_i q6
        rw [if_neg q6]
        obtain ⟨c1, h4, rfl⟩ := Option.map_eq_some_iff.1 h
        rcases ih (i0 + 1) h4 with ⟨idx, v1, g1, g2⟩ | ⟨g1, g2⟩
        · exact .inl ⟨idx + 1, v1, by rw [g1]; congr 3; omega, by rw [List.eraseIdx_cons_succ]; exact .cons h1 h2 h3 g2⟩
        · exact .inr ⟨g1, .cons h1 h2 h3 g2⟩
    · cases h
  · cases h
theorem jb (hr : bn base ι h w) {b : Nat} {e : Ext} {sz f k : Nat} {c c' : List Value} {es : Array MapEntry} {clock : Nat} (hb : ι b = some e) (hmp : e.mp = true) (ho : h.o b = .cells sz false f none k c) (hrel : fz ι c' es clock) :
  bn base ι (h.set b (.cells sz false f none (k + 1) c')) { w with heap := w.heap.setIfInBounds e.block (.map es clock) } ∧ dE ι h (h.set b (.cells sz false f none (k + 1) c')) w { w with heap := w.heap.setIfInBounds e.block (.map es clock) } ∧
   bw base ι ι h (h.set b (.cells sz false f none (k + 1) c')) w := by
 obtain ⟨hone, es0, clock0, hblk0, _⟩ := hr.maps b e _ _ _ _ _ _ hb hmp ho
 obtain ⟨hsz, _, hbase, _⟩ := hr.na b e _ _ _ _ _ _ hb ho
 have hB := hr.gG b e hb
 have hbn := hr.lt b e hb
 generalize hh' : h.set b (.cells sz false f none (k + 1) c') = h'
 have hset : ∀ y, h'.o y = if y = b then .cells sz false f none (k + 1) c' else h.o y := fun y => by rw [← hh']; rfl
 have hn' : h'.n = h.n := by rw [← hh']; rfl
 generalize hw : ({ w with heap := w.heap.setIfInBounds e.block (.map es clock) } : World) = w'
 have hw1 : w'.heap[e.block]? = some (.map es clock) := by rw [← hw]; show (w.heap.setIfInBounds e.block _)[e.block]? = _; rw [Array.getElem?_setIfInBounds_self]; simp [hB]
 have hw2 : ∀ B, B ≠ e.block → w'.heap[B]? = w.heap[B]? := fun B q => by rw [← hw]; show (w.heap.setIfInBounds e.block _)[B]? = _; rw [Array.getElem?_setIfInBounds_ne (Ne.symm q)]
 have hwn : w'.heap.size = w.heap.size := by rw [← hw]; show (w.heap.setIfInBounds e.block _).size = _; simp
 have nocell : ∀ o u, w.cell? ⟨e.block, o, none⟩ ≠ some u := fun o u q => by
  unfold World.cell? at q
  simp only [hblk0] at q
  cases q
 have cellB : ∀ {B o u}, w.cell? ⟨B, o, none⟩ = some u → B ≠ e.block := fun {B o u} q q2 => nocell o u (by rw [← q2]; exact q)
 have cellW : ∀ {B o}, B ≠ e.block → w'.cell? ⟨B, o, none⟩ = w.cell? ⟨B, o, none⟩ ∧ w'.frozen? ⟨B, o, none⟩ = w.frozen? ⟨B, o, none⟩ := fun {B o} q => by
  unfold World.cell? World.frozen?
  simp only [hw2 B q]
  exact ⟨trivial, trivial⟩
 have hcase : ∀ y bP ro1 f1 st1 k1 c1, h'.o y = .cells bP ro1 f1 st1 k1 c1 → (y = b ∧ bP = sz ∧ ro1 = false ∧ f1 = f ∧ st1 = none ∧ k1 = k + 1 ∧ c1 = c') ∨ (y ≠ b ∧ h.o y = .cells bP ro1 f1 st1 k1 c1) := by
  intro y bP ro1 f1 st1 k1 c1 hy
  rw [hset] at hy
  split at hy
  · rename_i q; injection hy with e1 e2 e3 e4 e5 e6; exact .inl ⟨q, e1.symm, e2.symm, e3.symm, e4.symm, e5.symm, e6.symm⟩
  · rename_i q; exact .inr ⟨q, hy⟩
 have gE : ∀ y bP ro1 f1 st1 k1 c1, h'.o y = .cells bP ro1 f1 st1 k1 c1 → ∃ k0 c0, h.o y = .cells bP ro1 f1 st1 k0 c0 := by
  intro y bP ro1 f1 st1 k1 c1 hy
  rcases hcase _ _ _ _ _ _ _ hy with ⟨rfl, rfl, rfl, rfl, rfl, rfl, rfl⟩ | ⟨_, q⟩
  · exact ⟨_, _, ho⟩
  · exact ⟨_, _, q⟩
 have hrd : ∀ y cy, y ≠ b → h'.rd y = some cy → h.rd y = some cy := by
  intro y cy hy hc
  rcases iM hc with ⟨bP, ro1, f1, k1, q1⟩ | ⟨bP, ro1, f1, m, k1, fk, ro2, f2, c2, q1, q2⟩
  · rw [hset, if_neg hy] at q1; unfold ai.rd; rw [q1]
  · rw [hset, if_neg hy] at q1
    by_cases hm : m = b
    · rw [hset, if_pos hm] at q2
      injection q2 with _ _ _ _ q2
      omega
    · rw [hset, if_neg hm] at q2
      unfold ai.rd; rw [q1]; simp only; rw [q2]; rfl
 have other : ∀ y ey, ι y = some ey → y ≠ b → ey.block ≠ e.block := fun y ey hy hne q => hne (hone y ey hy q)
 refine ⟨⟨fun y ey hy => by rw [hn']; exact hr.lt y ey hy, fun y ey hy => by rw [hwn]; exact hr.gG y ey hy, ?_, ?_, ?_, ?_, ?_, ?_, ?_, ?_, ?_, ?_⟩, ⟨by rw [← hw], by rw [← hw], by rw [← hw], Nat.le_of_eq hwn.symm, ?_, ?_, ?_⟩,
  ⟨fun _ _ => rfl, fun y ey hy he => absurd (hr.lt y ey he) (by omega), fun y bP ro1 f1 st1 k1 c1 hy hoy => ?_, fun y h1 h2 => absurd h1 (by omega), ?_, by omega⟩⟩
 · intro y ey bP ro1 f1 st1 k1 c1 hy hoy
   rcases hcase _ _ _ _ _ _ _ hoy with ⟨rfl, rfl, rfl, rfl, rfl, rfl, rfl⟩ | ⟨_, q⟩
   · obtain rfl := Option.some.inj (hb.symm.trans hy)
     exact ⟨hsz, fun q => (by rw [hmp] at q; cases q), hbase, fun q => (by rw [hmp] at q; cases q)⟩
   · exact hr.na y ey _ _ _ _ _ _ hy q
 · intro y ey cy i v hy hm hc hi
   have hyb : y ≠ b := fun q => by subst q; obtain rfl := Option.some.inj (hb.symm.trans hy); rw [hmp] at hm; cases hm
   obtain ⟨v', q1, q2⟩ := hr.val y ey cy i v hy hm (hrd y cy hyb hc) hi
   exact ⟨v', by rw [(cellW (cellB q1)).1]; exact q1, q2⟩
 · intro y ey bP f1 st1 k1 c1 i hy hoy hi
   obtain ⟨k0, c0, q⟩ := gE _ _ _ _ _ _ _ hoy
   obtain ⟨⟨v, hv⟩, hf⟩ := hr.room y ey _ _ _ _ _ i hy q hi
   have := cellW (o := ey.off + i) (cellB hv)
   exact ⟨⟨v, by rw [this.1]; exact hv⟩, by rw [this.2]; exact hf⟩
 · intro b1 e1 b2 e2 bP ro1 f1 st1 k1 c1 fk f2 st2 k2 c2 h1 h2 o1 o2
   obtain ⟨_, _, q1⟩ := gE _ _ _ _ _ _ _ o1
   obtain ⟨_, _, q2⟩ := gE _ _ _ _ _ _ _ o2
   exact hr.apart b1 e1 b2 e2 _ _ _ _ _ _ _ _ _ _ _ h1 h2 q1 q2
 · intro b1 e1 b2 e2 f1 bP ro1 st1 k1 c1 fk ro2 st2 k2 c2 h1 h2 o1 o2 hlt hBB
   have n1 : b1 ≠ b := fun q => by
    subst q
    obtain rfl := Option.some.inj (hb.symm.trans h1)
    have := hone b2 e2 h2 hBB.symm
    omega
   have n2 : b2 ≠ b := fun q => by
    subst q
    obtain rfl := Option.some.inj (hb.symm.trans h2)
    have := hone b1 e1 h1 hBB
    omega
   rw [hset, if_neg n1] at o1
   rw [hset, if_neg n2] at o2
   exact hr.link b1 e1 b2 e2 _ _ _ _ _ _ _ _ _ _ _ h1 h2 o1 o2 hlt hBB
 · intro y bP ro1 f1 m k1 c1 hoy
   rw [hn']
   obtain ⟨_, _, q1⟩ := gE _ _ _ _ _ _ _ hoy
   obtain ⟨q2, cj, ro3, st3, k3, c3, q3⟩ := hr.wf y _ _ _ _ _ _ q1
   refine ⟨q2, ?_⟩
   by_cases hm : m = b
   · subst hm
     rw [ho] at q3
     injection q3 with a1 a2 a3
     subst a3
     exact ⟨_, _, _, _, _, by rw [hset, if_pos rfl]⟩
   · exact ⟨_, _, _, _, _, by rw [hset, if_neg hm]; exact q3⟩
 · intro y bP ro1 f1 st1 k1 c1 hoy
   obtain ⟨_, _, q1⟩ := gE _ _ _ _ _ _ _ hoy
   exact hr.jw y _ _ _ _ _ _ q1
 · intro y z f1 bP ro1 st1 k1 c1 fk ro2 k2 c2 o1 o2 hor
   obtain ⟨_, _, q1⟩ := gE _ _ _ _ _ _ _ o1
   obtain ⟨_, _, q2⟩ := gE _ _ _ _ _ _ _ o2
   exact hr.uniq y z _ _ _ _ _ _ _ _ _ _ q1 q2 hor
 · intro y hy
   rw [hset, if_neg (by rw [hn'] at hy; omega)]
   exact hr.out y (by omega)
 · intro y ey bP ro1 f1 st1 k1 c1 hy hm hoy
   rcases hcase _ _ _ _ _ _ _ hoy with ⟨rfl, rfl, rfl, rfl, rfl, rfl, rfl⟩ | ⟨hne, q⟩
   · obtain rfl := Option.some.inj (hb.symm.trans hy)
     exact ⟨hone, es, clock, hw1, hrel⟩
   · obtain ⟨q1, q2⟩ := hr.maps y ey _ _ _ _ _ _ hy hm q
     exact ⟨q1, q2.world (hw2 _ (other y ey hy hne))⟩
 · intro B hBB hall
   by_cases hBe : B = e.block
   · subst hBe
     rcases hall b e hb rfl with q | ⟨_, a1, a2, a3, a4, a5, a6, a7, a8, a9, a10, a11, q1, q2⟩
     · rw [hset, if_pos rfl, ho] at q
       injection q with _ _ _ _ q
       omega
     · rw [ho] at q1; rw [hset, if_pos rfl] at q2
       injection q1 with _ _ _ _ q1; injection q2 with _ _ _ _ q2
       omega
   · exact hw2 B hBe
 · intro B o v hc _
   rw [(cellW (cellB hc)).1]; exact hc
 · intro B o v hc
   exact ⟨⟨v, by rw [(cellW (cellB hc)).1]; exact hc⟩, (cellW (cellB hc)).2⟩
 · obtain ⟨_, _, q1⟩ := gE _ _ _ _ _ _ _ hoy
   rw [hr.out y hy] at q1
   cases q1
 · intro y hy
   rw [hset]
   split
   · rename_i e1; subst e1
     rw [ho]
     exact ⟨false, none, k + 1, _, rfl, id, by omega, fun e => by omega, fun m e => by cases e⟩
   · exact lu.refl _
theorem uM (j : IntKind) (k : Int) (w : World) : (Instr.keyThatStays (.int j k) (.int j k)).run P w = .ok (.int j k) w := by
 have : Instr.sameBits 10000 (.int j k) (.int j k) = true := by
  unfold Instr.sameBits
  simp
 unfold Instr.keyThatStays
 rw [this]
 rfl
theorem fz.modify {c : List Value} {es : Array MapEntry} {clock i : Nat} {k u : Value} (h1 : ∀ en ∈ es.toList, en.born < clock) (h2 : es.toList.Pairwise fun x y => x.born < y.born)
  (hp : cL ι c (es.toList.modify i fun e => { e with key := k, val := u })) : fz ι (.int .i64 clock :: c) (es.modify i fun e => { e with key := k, val := u }) clock := by
 have hb : ∀ (l : List MapEntry) (i : Nat), (l.modify i fun e => { e with key := k, val := u }).map (·.born) = l.map (·.born) := fun l => by
  induction l with
  | nil => intro i; cases i <;> rfl
  | cons x l ih =>
   intro i
   cases i with
   | zero => rfl
   | succ i => rw [List.modify_succ_cons, List.map_cons, List.map_cons, ih i]
 have hb' := hb es.toList i
 unfold fz
 rw [Array.toList_modify]
 refine ⟨c, rfl, hp, fun en hen => ?_, ?_⟩
 · have : en.born ∈ es.toList.map (·.born) := by rw [← hb']; exact List.mem_map_of_mem hen
   obtain ⟨e2, q1, q2⟩ := List.mem_map.1 this
   rw [← q2]; exact h1 e2 q1
 · have p2 : (es.toList.map (·.born)).Pairwise (· < ·) := List.pairwise_map.2 h2
   rw [← hb'] at p2
   exact List.pairwise_map.1 p2
theorem fz.push {c : List Value} {es : Array MapEntry} {clock : Nat} {k u : Value} (h1 : ∀ en ∈ es.toList, en.born < clock) (h2 : es.toList.Pairwise fun x y => x.born < y.born)
  (hp : cL ι c (es.toList ++ [{ key := k, val := u, born := clock }])) : fz ι (.int .i64 (clock + 1 : Nat) :: c) (es.push { key := k, val := u, born := clock }) (clock + 1) := by
 unfold fz
 rw [Array.toList_push]
 refine ⟨c, rfl, hp, fun en hen => ?_, List.pairwise_append.2 ⟨h2, List.pairwise_singleton _ _, fun x hx y hy => ?_⟩⟩
 · rcases List.mem_append.1 hen with q | q
   · have := h1 en q; omega
   · rw [List.mem_singleton.1 q]; exact Nat.lt_succ_self _
 · rw [List.mem_singleton.1 hy]; exact h1 x hx
theorem fz.erase {c : List Value} {es : Array MapEntry} {clock i : Nat} (h1 : ∀ en ∈ es.toList, en.born < clock) (h2 : es.toList.Pairwise fun x y => x.born < y.born)
  (hp : cL ι c (es.toList.eraseIdx i)) : fz ι (.int .i64 clock :: c) (es.eraseIdxIfInBounds i) clock := by
 unfold fz
 rw [Array.toList_eraseIdxIfInBounds]
 exact ⟨c, rfl, hp, fun en hen => h1 en ((List.eraseIdx_sublist _ _).subset hen), h2.sublist (List.eraseIdx_sublist _ _)⟩
theorem kF {b : Nat} {x' : Value} (hx : aP ι (.map (some b)) x') : ∃ e, ι b = some e ∧ e.mp = true ∧ x' = .map (some e.block) := by
 cases hx with
 | atom q => simp [aX] at q
 | map q1 q2 => exact ⟨_, q1, q2, rfl⟩
theorem jo {B : Nat} {o : Obj} {es : Array MapEntry} {clock : Nat} (hB : w.heap[B]? = some (.map es clock)) : (setObj B o).run P w = .ok () { w with heap := w.heap.setIfInBounds B o } := by
 simp [setObj, Sem.run, hB]
theorem xN (hr : bn base ι h w) {t : TypeId} {x x' i i' u u' : Value} (hv : pU P h t x i u = some h') (hx : aP ι x x') (hi : aP ι i i') (hu : aP ι u u') :
  ∃ w', (Instr.mapUpdate t x' i' u').run P w = .ok () w' ∧ bn base ι h' w' ∧ dE ι h h' w w' ∧ bw base ι ι h h' w := by
 unfold pU at hv
 split at hv
 · rename_i e j k b he
   split at hv
   · rename_i sz f n ck c hob
     obtain ⟨c', hc', rfl⟩ := Option.map_eq_some_iff.1 hv
     obtain ⟨kt, kd, h1, h2⟩ := nv he
     obtain rfl := hi.plain rfl
     obtain ⟨ex, hex, hmp, rfl⟩ := kF hx
     obtain ⟨_, es, clock, hes, _, hq0, hp, hp2, hp3⟩ := hr.maps b ex _ _ _ _ _ _ hex hmp hob
     injection hq0 with hq1 hq0; injection hq1 with _ hq1; subst hq0 hq1
     have hobj : (getObj ex.block).run P w = .ok (.map es clock) w := by
      simp only [getObj, Sem.run]
      rw [hes]
     rcases xm (kd := kd) hp 0 hc' with ⟨idx, en, g1, g2, g3, g0, g4⟩ | ⟨g1, g0, g2⟩
     · have hf' := iq (P := P) h2 g1 w
       have hrel := fz.modify hp2 hp3 (g4 u' hu)
       rw [← g0] at hrel
       have := jb hr hex hmp hob hrel
       refine ⟨_, ?_, this⟩
       have g2' : es[0 + idx]? = some en := by rw [Nat.zero_add, ← Array.getElem?_toList]; exact g2
       simp only [Instr.mapUpdate, Sem.run_bind, bF h1, Result.andThen_ok, hobj, gi h2, hf', g2', Option.map_some, Option.getD_some, g3, uM]
       rw [jo hes, Nat.zero_add]
     · have hf' := iq (P := P) h2 g1 w
       have hrel := fz.push hp2 hp3 (g2 u' hu)
       rw [← g0] at hrel
       have := jb hr hex hmp hob hrel
       refine ⟨_, ?_, this⟩
       simp only [Instr.mapUpdate, Sem.run_bind, bF h1, Result.andThen_ok, hobj, gi h2, hf']
       rw [jo hes]
   · cases hv
 · cases hv
theorem xU (hr : bn base ι h w) {t : TypeId} {x x' i i' : Value} {ts : Array TypeId} {ty : TypeId} (ht : ts[0]? = some t) (hv : pY P h t x i = some h') (hx : aP ι x x') (hi : aP ι i i') :
  ∃ w', (Builtin.delete_ ts ty #[x', i']).run P w = .ok (.tuple #[]) w' ∧ bn base ι h' w' ∧ dE ι h h' w w' ∧ bw base ι ι h h' w := by
 unfold pY at hv
 split at hv
 · rename_i e j k b he
   split at hv
   · rename_i sz f n ck c hob
     obtain ⟨c', hc', rfl⟩ := Option.map_eq_some_iff.1 hv
     obtain ⟨kt, kd, h1, h2⟩ := nv he
     obtain rfl := hi.plain rfl
     obtain ⟨ex, hex, hmp, rfl⟩ := kF hx
     obtain ⟨_, es, clock, hes, _, hq0, hp, hp2, hp3⟩ := hr.maps b ex _ _ _ _ _ _ hex hmp hob
     injection hq0 with hq1 hq0; injection hq1 with _ hq1; subst hq0 hq1
     have hobj : (getObj ex.block).run P w = .ok (.map es clock) w := by
      simp only [getObj, Sem.run]
      rw [hes]
     have e0 : (#[Value.map (some ex.block), Value.int j k] : Array Value)[0]? = some (.map (some ex.block)) := rfl
     have e1 : (#[Value.map (some ex.block), Value.int j k] : Array Value)[1]? = some (.int j k) := rfl
     rcases xi (kd := kd) hp 0 hc' with ⟨idx, en, g1, g2⟩ | ⟨g1, g2⟩
     · have hf' := iq (P := P) h2 g1 w
       have hrel := fz.erase hp2 hp3 g2
       have := jb hr hex hmp hob hrel
       refine ⟨_, ?_, this⟩
       unfold Builtin.delete_
       rw [ht, e0, e1]
       simp only [Sem.run_bind, bF h1, Result.andThen_ok, hobj, gi h2, hf']
       rw [jo hes, Nat.zero_add]
       rfl
     · have hf' := iq (P := P) h2 g1 w
       have := jb hr hex hmp hob ⟨_, rfl, g2, hp2, hp3⟩
       refine ⟨_, ?_, this⟩
       unfold Builtin.delete_
       rw [ht, e0, e1]
       simp only [Sem.run_bind, bF h1, Result.andThen_ok, hobj, gi h2, hf']
       rw [jo hes]
       rfl
   · cases hv
 · cases hv
theorem yg {o : Oper} {s : bN} {v : Value} {ρ : Operand → Value} (hv : pK P o s = some (v, h')) (hr : bn base ι s.h w) (hρ : ∀ x ∈ o.op.operands, aP ι (s.ev x) (ρ x)) :
  Comes P base ι s.h h' w v (execOp ρ o) := by
 obtain ⟨dst, op, type, pos, after, guard⟩ := o
 unfold pK at hv
 simp only at hv hρ
 split at hv
 · rename_i t m k x
   obtain ⟨g, hg, hv⟩ := Option.map_eq_some_iff.1 hv
   injection hv with e1 e2; subst e1 e2
   obtain ⟨w', hrun, r1, r2, r3⟩ := xN (P := P) hr hg (hρ m (by simp [Op.operands])) (hρ k (by simp [Op.operands])) (hρ x (by simp [Op.operands]))
   refine ⟨Go.undef, w', .skip, ?_, .inr ⟨rfl, rfl⟩, ι, r3, aP.undef, r1, r2⟩
   simp only [execOp, Sem.run_bind, hrun, Result.andThen_ok]
   rfl
 · rename_i args argTypes
   split at hv
   · rename_i m k t u ha ht
     obtain ⟨g, hg, hv⟩ := Option.map_eq_some_iff.1 hv
     injection hv with e1 e2; subst e1 e2
     obtain rfl : args = #[m, k] := Array.toList_inj.1 ha
     obtain rfl : argTypes = #[t, u] := Array.toList_inj.1 ht
     obtain ⟨w', hrun, r1, r2, r3⟩ := xU (P := P) (ts := #[t, u]) (ty := type) hr rfl hg (hρ m (by simp [Op.operands, Call.operands])) (hρ k (by simp [Op.operands, Call.operands]))
     refine ⟨.tuple #[], w', .value (.tuple #[]), ?_, .inl rfl, ι, r3, aP.undef, r1, r2⟩
     simp only [execOp, resolve, invoke, builtin, Sem.run_bind, Sem.run_pure, Result.andThen_ok, List.map_toArray, List.map_cons, List.map_nil, hrun]
   · cases hv
 · cases hv
theorem sK {o : Oper} {s : bN} {v : Value} (hv : pK P o s = some (v, h')) : ∃ b sz f n c c', s.h.o b = .cells sz false f none n c ∧ h' = s.h.set b (.cells sz false f none (n + 1) c') := by
 have one : ∀ {t x i u}, pU P s.h t x i u = some h' → ∃ b sz f n c c', s.h.o b = .cells sz false f none n c ∧ h' = s.h.set b (.cells sz false f none (n + 1) c') := fun h => by
  unfold pU at h
  split at h
  · split at h
    · rename_i sz f n ck c hob
      obtain ⟨c', _, rfl⟩ := Option.map_eq_some_iff.1 h
      exact ⟨_, _, _, _, _, _, hob, rfl⟩
    · cases h
  · cases h
 have two : ∀ {t x i}, pY P s.h t x i = some h' → ∃ b sz f n c c', s.h.o b = .cells sz false f none n c ∧ h' = s.h.set b (.cells sz false f none (n + 1) c') := fun h => by
  unfold pY at h
  split at h
  · split at h
    · rename_i sz f n ck c hob
      obtain ⟨c', _, rfl⟩ := Option.map_eq_some_iff.1 h
      exact ⟨_, _, _, _, _, _, hob, rfl⟩
    · cases h
  · cases h
 unfold pK at hv
 split at hv
 · obtain ⟨g, hg, hv⟩ := Option.map_eq_some_iff.1 hv
   injection hv with e1 e2; subst e2
   exact one hg
 · split at hv
   · obtain ⟨g, hg, hv⟩ := Option.map_eq_some_iff.1 hv
     injection hv with e1 e2; subst e2
     exact two hg
   · cases hv
 · cases hv
theorem tK {o : Oper} {s : bN} {v : Value} (hv : pK P o s = some (v, h')) : ∀ c, o.op ≠ .defer c := by
 intro c hc
 unfold pK at hv
 rw [hc] at hv
 cases hv
end Go.Proofs.YthekokdpplobhaaGreat.Eng
set_option linter.unusedVariables false
set_option linter.unusedSimpArgs false
namespace Go.Proofs.YthekokdpplobhaaGreat.Eng
variable {P : Program} {base : Nat} {ι ι1 ι2 : Lay} {h h' h1 h2 : ai} {w w1 w2 : World}
theorem lu.back {x y : ep} (a : lu x y) (b : lu y x) : y = x := by
 cases x with
 | dead => exact a
 | cells sz ro f st k c =>
  obtain ⟨ro1, st1, k1, c1, rfl, hr1, hk, hc, hm⟩ := a
  obtain ⟨ro2, st2, k2, c2, he, hr2, hk2, hc2, hm2⟩ := b
  injection he with _ e0 _ e1 e2 e3
  subst e0 e1 e2 e3
  obtain rfl : ro1 = ro := by cases ro <;> cases ro1 <;> simp_all
  have e4 : k1 = k := by omega
  have e5 := hc e4
  cases st with
  | none =>
   cases st1 with
   | none => rw [e4, e5]
   | some m => obtain ⟨h1, _, _⟩ := hm2 m rfl; cases h1
  | some m => obtain ⟨h1, h2, h3⟩ := hm m rfl; rw [h1, h2, h3]
theorem lu.qf {x y z : ep} (a : lu x y) (b : lu y z) (e : z = x) : y = x := by subst e; exact a.back b
theorem lu.gE {x : ep} {sz ro f st k c} (a : lu x (.cells sz ro f st k c)) : ∃ ro0 st0 k0 c0, x = .cells sz ro0 f st0 k0 c0 := by
 cases x with
 | dead => cases a
 | cells bP ro1 f1 st1 k1 c1 =>
  obtain ⟨ro', st', k', c', he, _⟩ := a
  injection he with e1 e2 e3
  subst e1 e2 e3
  exact ⟨_, _, _, _, rfl⟩
theorem lu.is {y : ep} {sz ro f st k c} (a : lu (.cells sz ro f st k c) y) : ∃ ro0 st0 k0 c0, y = .cells sz ro0 f st0 k0 c0 := by
 obtain ⟨ro', st', k', c', he, _⟩ := a
 exact ⟨_, _, _, _, he⟩
theorem eL.zero {h h' : ai} {w w' : World} (k : dE ι h h' w w') : bg ι h h' w w' :=
 ⟨k.os, k.tape, k.output, k.size, k.block, fun B off v hc hall => k.cell B off v hc fun b e q1 q2 q3 q4 => .inl (hall b e q1 q2 q3 q4), k.there⟩
theorem bw.trans (hr : bn base ι h w) (hr1 : bn base ι1 h1 w1) (a : bw base ι ι1 h h1 w) (b : bw base ι1 ι2 h1 h2 w1) (hs : w.heap.size ≤ w1.heap.size) : bw base ι ι2 h h2 w := by
 have hne : ∀ y, y < h.n → h1.o y ≠ h.o y → h2.o y ≠ h.o y := fun y hy hn he => hn ((a.mw y hy).qf (b.mw y (Nat.lt_of_lt_of_le hy a.grow)) he)
 have first : ∀ y e, h.n ≤ y → ι1 y = some e → w.heap.size ≤ e.block ∨ ∃ b0 e0 sz ro f st k c, ι b0 = some e0 ∧ h2.o b0 ≠ h.o b0 ∧ e.block = e0.block ∧ e0.off ≤ e.off ∧ e.off + e.cap ≤ e0.off + e0.cap ∧
   h.o b0 = .cells sz ro f st k c ∧ ∃ sz' ro' st' k' c', h2.o y = .cells sz' ro' f st' k' c' := by
  intro y e hy he
  rcases a.new y e hy he with q | ⟨b0, e0, sz, ro, f, st, k, c, q1, q2, q3, q4, q5, q6, sz', ro', st', k', c', q7⟩
  · exact .inl q
  · obtain ⟨s0, s1, s2, s3, s4⟩ := (q7 ▸ b.mw y (hr1.lt y e he)).is
    exact .inr ⟨b0, e0, sz, ro, f, st, k, c, q1, hne b0 (hr.lt b0 e0 q1) q2, q3, q4, q5, q6, _, _, _, _, _, s4⟩
 refine ⟨fun y hy => by rw [b.old y (Nat.lt_of_lt_of_le hy a.grow), a.old y hy], fun y e hy he => ?_, fun y sz ro f st k c hy hoy => ?_, fun y q1 q2 => ?_, fun y hy => (a.mw y hy).trans (b.mw y (Nat.lt_of_lt_of_le hy a.grow)), Nat.le_trans a.grow b.grow⟩
 · rcases Nat.lt_or_ge y h1.n with hy1 | hy1
   · exact first y e hy (by rw [← b.old y hy1]; exact he)
   · rcases b.new y e hy1 he with q | ⟨b0, e0, sz, ro, f, st, k, c, q1, q2, q3, q4, q5, q6, q7⟩
     · left; omega
     · rcases Nat.lt_or_ge b0 h.n with hb | hb
       · obtain ⟨s0, s1, s2, s3, s4⟩ := (q6 ▸ a.mw b0 hb).gE
         refine .inr ⟨b0, e0, sz, s0, f, s1, s2, s3, by rw [← a.old b0 hb]; exact q1, fun he2 => q2 ?_, q3, q4, q5, s4, q7⟩
         have := (a.mw b0 hb).qf (b.mw b0 (Nat.lt_of_lt_of_le hb a.grow)) he2
         rw [he2, this]
       · rcases first b0 e0 hb q1 with r | ⟨b1, e1, bP, ro1, f1, st1, k1, c1, r1, r2, r3, r4, r5, r6, fk, ro2, st2, k2, c2, r7⟩
         · left; rw [q3]; exact r
         · obtain ⟨s0, s1, s2, s3, s4⟩ := (q6 ▸ b.mw b0 (hr1.lt b0 e0 q1)).is
           rw [s4] at r7
           injection r7 with _ _ r7
           subst r7
           exact .inr ⟨b1, e1, bP, ro1, f, st1, k1, c1, r1, r2, by omega, by omega, by omega, r6, q7⟩
 · rcases Nat.lt_or_ge y h1.n with hy1 | hy1
   · obtain ⟨s0, s1, s2, s3, s4⟩ := (hoy ▸ b.mw y hy1).gE
     rcases a.mH y _ _ _ _ _ _ hy s4 with q | ⟨b0, e0, sz0, ro0, st0, k0, c0, q1, q2, q3⟩
     · exact .inl q
     · exact .inr ⟨b0, e0, sz0, ro0, st0, k0, c0, q1, q2, hne b0 (hr.lt b0 e0 q1) q3⟩
   · rcases b.mH y _ _ _ _ _ _ hy1 hoy with q | ⟨b0, e0, sz0, ro0, st0, k0, c0, q1, q2, q3⟩
     · exact .inl (Nat.le_trans a.grow q)
     · rcases Nat.lt_or_ge b0 h.n with hb | hb
       · obtain ⟨s0, s1, s2, s3, s4⟩ := (q2 ▸ a.mw b0 hb).gE
         refine .inr ⟨b0, e0, _, _, _, _, _, by rw [← a.old b0 hb]; exact q1, s4, fun he2 => q3 ?_⟩
         have := (a.mw b0 hb).qf (b.mw b0 (Nat.lt_of_lt_of_le hb a.grow)) he2
         rw [he2, this]
       · rcases a.mH b0 _ _ _ _ _ _ hb q2 with q | ⟨b1, e1, bP, ro1, st1, k1, c1, r1, r2, r3⟩
         · exact .inl q
         · exact .inr ⟨b1, e1, _, _, _, _, _, r1, r2, hne b1 (hr.lt b1 e1 r1) r3⟩
 · rcases Nat.lt_or_ge y h1.n with hy1 | hy1
   · obtain ⟨e, he⟩ := a.full y q1 hy1
     exact ⟨e, by rw [b.old y hy1]; exact he⟩
   · exact b.full y hy1 q2
theorem Kept.qf {e : Ext} {x y z : ep} (a : lu x y) (b : lu y z) (hk : Kept e x z) : Kept e x y ∧ Kept e y z := by
 rcases hk with hk | ⟨h1, sz, ro, f, st, k, c, sz', ro', f', st', c', h2, h3⟩
 · have := a.qf b hk
   exact ⟨.inl this, .inl (by rw [hk, this])⟩
 · subst h2 h3
   obtain ⟨ro1, st1, k1, c1, rfl, _, hk1, _⟩ := a
   obtain ⟨ro2, st2, k2, c2, he, _, hk2, _⟩ := b
   injection he with e1 e2 e3 e4 e5 e6
   have e7 : k1 = k := by omega
   subst e7
   exact ⟨.inr ⟨h1, _, _, _, _, _, _, _, _, _, _, _, rfl, rfl⟩, .inr ⟨h1, _, _, _, _, _, _, _, _, _, _, _, rfl, rfl⟩⟩
theorem bg.trans (hr : bn base ι h w) (hr1 : bn base ι1 h1 w1) (a : bw base ι ι1 h h1 w) (b : bw base ι1 ι2 h1 h2 w1) (k : bg ι h h1 w w1) (l : bg ι1 h1 h2 w1 w2) : bg ι h h2 w w2 := by
 have hmid : ∀ y, y < h.n → h2.o y = h.o y → h1.o y = h.o y := fun y hy he => (a.mw y hy).qf (b.mw y (Nat.lt_of_lt_of_le hy a.grow)) he
 have b_evo : ∀ y, y < h.n → lu (h1.o y) (h2.o y) := fun y hy => b.mw y (Nat.lt_of_lt_of_le hy a.grow)
 refine ⟨l.os.trans k.os, l.tape.trans k.tape, l.output.trans k.output, Nat.le_trans k.size l.size, fun B hB hall => ?_, fun B off v hc hall => ?_, fun B off v hc => ?_⟩
 · have e1 := k.block B hB fun b e q1 q2 => ((hall b e q1 q2).qf (a.mw b (hr.lt b e q1)) (b_evo b (hr.lt b e q1))).1
   rw [← e1]
   refine l.block B (Nat.lt_of_lt_of_le hB k.size) fun b e q1 q2 => ?_
   rcases Nat.lt_or_ge b h.n with hb | hb
   · have q3 : ι b = some e := by rw [← a.old b hb]; exact q1
     exact ((hall b e q3 q2).qf (a.mw b hb) (b_evo b hb)).2
   · exfalso
     rcases a.new b e hb q1 with q | ⟨b0, e0, _, _, _, _, _, _, r1, r2, r3, r4, r5, r6, _⟩
     · omega
     · have hb0 := hr.lt b0 e0 r1
       rcases hall b0 e0 r1 (by omega) with q3 | ⟨q3, _⟩
       · exact r2 (hmid b0 hb0 q3)
       · obtain ⟨_, _, _, _, r7⟩ := (r6 ▸ a.mw b0 hb0).is
         have := (hr1.maps b0 e0 _ _ _ _ _ _ (by rw [a.old b0 hb0]; exact r1) q3 r7).1 b e q1 r3
         omega
 · have hB := fp hc
   have e1 := k.cell B off v hc fun b e q1 q2 q3 q4 => hmid b (hr.lt b e q1) (hall b e q1 q2 q3 q4)
   refine l.cell B off v e1 fun b e q1 q2 q3 q4 => ?_
   rcases Nat.lt_or_ge b h.n with hb | hb
   · have q5 : ι b = some e := by rw [← a.old b hb]; exact q1
     have q6 := hall b e q5 q2 q3 q4
     rw [q6, hmid b hb q6]
   · exfalso
     rcases a.new b e hb q1 with q | ⟨b0, e0, _, _, _, _, _, _, r1, r2, r3, r4, r5, _⟩
     · omega
     · exact r2 (hmid b0 (hr.lt b0 e0 r1) (hall b0 e0 r1 (by omega) (by omega) (by omega)))
 · obtain ⟨⟨v', hv'⟩, hf⟩ := k.there B off v hc
   obtain ⟨h3, h4⟩ := l.there B off v' hv'
   exact ⟨h3, by rw [h4, hf]⟩
structure eK (base : Nat) (ι : Lay) (s : bN) (a : Act) (w : World) : Prop where
 size : a.tmps.size = s.m
 tmps : ∀ i, aP ι (s.t i) (a.tmps.getD i undef)
 heap : bn base ι s.h w
 base : base ≤ w.heap.size
theorem dy {s : bN} {a : Act} (ht : ∀ i, aP ι (s.t i) (a.tmps.getD i undef)) {x : Operand} (hx : dZ x = true) : aP ι (s.ev x) (a.eval x) := by
 cases x with
 | tmp t => exact ht t
 | const v => exact .const hx
 | global g => cases hx
 | func f => exact .func rfl (fun i v v' a _ => by simp at a) rfl (fun i v v' a _ => by simp at a)
theorem bw.lay (hr : bn base ι h w) (a : bw base ι ι1 h h1 w) : ∀ b e, ι b = some e → ι1 b = some e := fun b e hb => by rw [a.old b (hr.lt b e hb)]; exact hb
theorem fP {a : Act} {dst : Option Tmp} {v : Value} {m : Nat} (hm : a.tmps.size = m) (hd : ∀ d, dst = some d → d < m) (i : Nat) :
  (a.put dst v).tmps.getD i undef = if dst = some i then v else a.tmps.getD i undef := by
 cases dst with
 | none => simp [Act.put]
 | some d =>
  have := hd d rfl
  simp only [Act.put, Option.some.injEq]
  rw [Array.getD_eq_getD_getElem?, Array.getD_eq_getD_getElem?, Array.getElem?_setIfInBounds]
  by_cases e : d = i
  · subst e; rw [if_pos rfl, if_pos rfl, if_pos (show d < a.tmps.size by rw [hm]; exact this)]; rfl
  · rw [if_neg e, if_neg e]
theorem eK.put {s : bN} {a : Act} (hs : eK base ι s a w) {dst : Option Tmp} {v v' : Value} (hd : ∀ d, dst = some d → d < s.m) (hm : bw base ι ι1 s.h h1 w) (hv : aP ι1 v v') (hr : bn base ι1 h1 w1) (hw : w.heap.size ≤ w1.heap.size) :
  eK base ι1 (s.put dst v h1) (a.put dst v') w1 := by
 refine ⟨?_, fun i => ?_, ?_, Nat.le_trans hs.base hw⟩
 · cases dst <;> simp [Act.put, bN.put, hs.size]
 · rw [fP hs.size hd]
   have hold := (hs.tmps i).mono (bw.lay hs.heap hm)
   cases dst with
   | none => simpa [bN.put] using hold
   | some d =>
    simp only [bN.put, Option.some.injEq]
    by_cases e : i = d
    · subst e; rw [if_pos rfl, if_pos rfl]; exact hv
    · rw [if_neg e, if_neg (fun q => e q.symm)]; exact hold
 · cases dst <;> exact hr
def tA (ι : Lay) (h : ai) (B : Nat) : Prop := ∀ b e, ι b = some e → e.block = B → h.o b = .dead
structure db (ρ : dV) (ι : Lay) (h : ai) (w : World) : Prop where
 wi : ∀ b c, ρ.c b = some c → ∃ e fn tmps D, ι b = some e ∧ tA ι h e.block ∧ w.heap[e.block]? = some (.loop { state := .ready, pending := none, fn := fn, tmps := tmps, params := c.ps, assign := c.assign, body := c.body, defers := D }) ∧
  tmps.size = c.m ∧ ∀ i, aP ι (c.t i) (tmps.getD i undef)
 inj : ∀ b1 b2 c1 c2 e1 e2, ρ.c b1 = some c1 → ρ.c b2 = some c2 → ι b1 = some e1 → ι b2 = some e2 → e1.block = e2.block → b1 = b2
theorem db.none : db dV.none ι h w := ⟨fun b c hc => (by cases hc), fun b1 b2 c1 c2 e1 e2 hc => (by cases hc)⟩
theorem db.out {ρ : dV} (hc : db ρ ι h w) : db ρ.out ι h w := ⟨hc.wi, hc.inj⟩
theorem tA.more (hr : bn base ι h w) (hm : bw base ι ι1 h h1 w) {B : Nat} (hB : B < w.heap.size) (ho : tA ι h B) : tA ι1 h1 B := by
 have dd : ∀ b, b < h.n → h.o b = .dead → h1.o b = .dead := fun b hb e => by
  have := hm.mw b hb
  rw [e] at this
  exact this
 intro b e hb he
 rcases Nat.lt_or_ge b h.n with q | q
 · exact dd b q (ho b e (by rw [← hm.old b q]; exact hb) he)
 · rcases hm.new b e q hb with r | ⟨b0, e0, _, _, _, _, _, _, r1, r2, r3, _⟩
   · omega
   · exfalso
     have e1 := ho b0 e0 r1 (by omega)
     exact r2 (by rw [dd b0 (hr.lt b0 e0 r1) e1, e1])
theorem tA.aq (hr : bn base ι h w) (hm : bw base ι ι1 h h1 w) (hk : bg ι h h1 w w1) {B : Nat} (hB : B < w.heap.size) (ho : tA ι h B) : w1.heap[B]? = w.heap[B]? :=
 hk.block B hB fun b e hb he => .inl <| by
  have e1 := ho b e hb he
  have := hm.mw b (hr.lt b e hb)
  rw [e1] at this
  rw [this, e1]
theorem db.more {ρ : dV} (hc : db ρ ι h w) (hr : bn base ι h w) (hm : bw base ι ι1 h h1 w) (hk : bg ι h h1 w w1) : db ρ ι1 h1 w1 := by
 have lay : ∀ b e, ι b = some e → ι1 b = some e := fun b e hb => by rw [hm.old b (hr.lt b e hb)]; exact hb
 refine ⟨fun b c hb => ?_, fun b1 b2 c1 c2 e1 e2 h1 h2 h3 h4 h5 => ?_⟩
 · obtain ⟨e, fn, tmps, D, q1, q2, q3, q4, q5⟩ := hc.wi b c hb
   exact ⟨e, fn, tmps, D, lay _ _ q1, q2.more hr hm (hr.gG b e q1), by rw [q2.aq hr hm hk (hr.gG b e q1)]; exact q3, q4, fun i => (q5 i).mono lay⟩
 · obtain ⟨f1, _, _, _, g1, _⟩ := hc.wi b1 c1 h1
   obtain ⟨f2, _, _, _, g2, _⟩ := hc.wi b2 c2 h2
   have a1 := lay _ _ g1
   have a2 := lay _ _ g2
   rw [h3] at a1
   rw [h4] at a2
   obtain rfl := Option.some.inj a1
   obtain rfl := Option.some.inj a2
   exact hc.inj b1 b2 c1 c2 _ _ h1 h2 g1 g2 h5
theorem eo {B B' off : Nat} {o : Obj} (hne : B' ≠ B) : (w.putObj B o).cell? ⟨B', off, none⟩ = w.cell? ⟨B', off, none⟩ := by
 unfold World.cell?
 simp only [World.putObj_heap_other hne]
theorem gu {B B' off : Nat} {o : Obj} (hne : B' ≠ B) : (w.putObj B o).frozen? ⟨B', off, none⟩ = w.frozen? ⟨B', off, none⟩ := by
 unfold World.frozen?
 simp only [World.putObj_heap_other hne]
theorem tj {b : Nat} {c : List Value} (hb : h.rd b = some c) : h.o b ≠ .dead := by
 intro e
 unfold ai.rd at hb
 rw [e] at hb
 cases hb
theorem qA {B C : Nat} {o : Obj} (h : C ≠ B) : (w.putObj B o).heap[C]? = w.heap[C]? := by
 unfold World.putObj
 simp [Array.getElem?_setIfInBounds, Ne.symm h]
theorem bn.put (hr : bn base ι h w) {B : Nat} (ho : tA ι h B) (o : Obj) : bn base ι h (w.putObj B o) := by
 have ne : ∀ b e, ι b = some e → h.o b ≠ .dead → e.block ≠ B := fun b e hb hd he => hd (ho b e hb he)
 refine ⟨hr.lt, fun b e hb => by rw [World.putObj_size]; exact hr.gG b e hb, hr.na, fun b e c i v hb hmp hc hv => ?_, fun b e sz f st k c i hb hc hi => ?_, hr.apart, hr.link, hr.wf, hr.jw, hr.uniq, hr.out, fun b e sz ro f st k c hb hmp ho1 => ?_⟩
 · obtain ⟨v', q1, q2⟩ := hr.val b e c i v hb hmp hc hv
   exact ⟨v', by rw [eo (ne b e hb (tj hc))]; exact q1, q2⟩
 · have hn := ne b e hb (by rw [hc]; intro q; cases q)
   rw [eo hn, gu hn]
   exact hr.room b e sz f st k c i hb hc hi
 · obtain ⟨q2, q3⟩ := hr.maps b e _ _ _ _ _ _ hb hmp ho1
   have hn := ne b e hb (by rw [ho1]; intro q; cases q)
   exact ⟨q2, q3.world (qA hn)⟩
def FR (r : Option Nat) : Fence := { Fence.wide with round := r }
def cF (P : Program) (ρ : dV) (U : ep → ep → Nat → Prop) (o : Oper) (s : bN) (v : Value) (h' : ai) : Prop :=
 ∀ r base ι (a : Act) (w : World) (K : Act → World → Prop) (Q : Exit → Act → World → Prop), bn base ι s.h w → base ≤ w.heap.size → db ρ ι s.h w → (∀ x ∈ o.op.operands, aP ι (s.ev x) (a.eval x)) →
  (∀ ι' v' w', bw base ι ι' s.h h' w → aP ι' v v' → bn base ι' h' w' → eL U ι s.h h' w w' → K (a.put o.dst v') w') → o.wpIn (FR r) 0 P a w K Q
theorem tR {o : Oper} {s : bN} {v : Value} (hv : eg P o s = some (v, h')) : ∀ c, o.op ≠ .defer c := by
 intro c hc
 obtain ⟨dst, op, type, pos, after, guard⟩ := o
 simp only at hc
 subst hc
 have e1 : eg P { dst := dst, op := .defer c, type := type, pos := pos, after := after, guard := guard } s = (eC P { dst := dst, op := .defer c, type := type, pos := pos, after := after, guard := guard } s.ev).map (·, s.h) := rfl
 rw [e1] at hv
 have e2 : ∀ u, bI P (execOp s.ev { dst := dst, op := .defer c, type := type, pos := pos, after := after, guard := guard }) ≠ some (.value u) := by
  intro u hu
  have e3 : execOp s.ev { dst := dst, op := .defer c, type := type, pos := pos, after := after, guard := guard } = (do let d ← resolve s.ev c type; pure (.defer d)) := rfl
  rw [e3, bj] at hu
  cases hx : bI P (resolve s.ev c type) with
  | none => rw [hx] at hu; cases hu
  | some d =>
   rw [hx] at hu
   have : bI P (pure (Next.defer d) : Sem Next) = some (.defer d) := rfl
   rw [Option.bind_some, this] at hu
   cases hu
 have e4 : oh P { dst := dst, op := .defer c, type := type, pos := pos, after := after, guard := guard } s.ev = none := rfl
 unfold eC at hv
 rw [e4] at hv
 split at hv
 · split at hv
   · rename_i u hu
     exact e2 u hu
   · cases hv
 · cases hv
theorem cF.simple {ρ : dV} {o : Oper} {s : bN} {v : Value} (hv : eg P o s = some (v, h')) : cF P ρ cU o s v h' := by
 intro r base ι a w K Q hr hb _ hx hk
 obtain ⟨v', w', nx, hrun, hnx, ι', d1, d2, d3, d4⟩ := x7 hv hr hb hx
 refine ⟨fun _ _ => trivial, ?_⟩
 rw [Oper.semAt_eq _ _ _ (tR hv), hrun]
 rcases hnx with rfl | ⟨rfl, rfl⟩
 · exact hk ι' v' w' d1 d2 d3 d4
 · exact hk ι' _ w' d1 d2 d3 d4
theorem cF.zero {ρ : dV} {o : Oper} {s : bN} {v : Value} (hs : cF P ρ cU o s v h') : cF P ρ (fun x y _ => y = x) o s v h' :=
 fun r base ι a w K Q hr hb hc hx hk => hs r base ι a w K Q hr hb hc hx fun ι' v' w' d1 d2 d3 d4 => hk ι' v' w' d1 d2 d3 d4.zero
theorem vL {h2 : ai} (hs : gX h h' h2) (hr0 : bn base ι h w) {ι' : Lay} (hm : bw base ι ι' h h' w) (hr : bn base ι' h' w1) (hk : dE ι h h' w w1) :
  bw base ι ι' h h2 w ∧ bn base ι' h2 w1 ∧ bg ι h h2 w w1 := by
 obtain ⟨b, sz, f, k, c, cn, hb, hb', hn', h2n, h2o⟩ := hs
 have hlt : ∀ b sz ro f st k c, h.o b = .cells sz ro f st k c → b < h.n := fun b sz ro f st k c ho => by
  rcases Nat.lt_or_ge b h.n with q | q
  · exact q
  · rw [hr0.out b q] at ho; cases ho
 have hbn := hlt _ _ _ _ _ _ _ hb
 have h2b : h2.o b = .cells sz true f none (k + 1) c := by rw [h2o, if_pos rfl]
 have h2m : h2.o h.n = .cells sz true f none 0 cn := by rw [h2o, if_neg (by omega), if_pos rfl]
 have h2x : ∀ x, x ≠ b → x ≠ h.n → h2.o x = h'.o x := fun x q1 q2 => by rw [h2o, if_neg q1, if_neg q2]
 have hcase : ∀ x bP ro1 f1 st1 k1 c1, h2.o x = .cells bP ro1 f1 st1 k1 c1 → (x = b ∧ bP = sz ∧ ro1 = true ∧ f1 = f ∧ st1 = none ∧ k1 = k + 1 ∧ c1 = c) ∨ (x = h.n ∧ bP = sz ∧ ro1 = true ∧ f1 = f ∧ st1 = none ∧ k1 = 0 ∧ c1 = cn) ∨ (x ≠ b ∧ x ≠ h.n ∧ h'.o x = .cells bP ro1 f1 st1 k1 c1) := by
  intro x bP ro1 f1 st1 k1 c1 ho
  by_cases q1 : x = b
  · subst q1; rw [h2b] at ho; injection ho with e1 e2 e3 e4 e5 e6; exact .inl ⟨rfl, e1.symm, e2.symm, e3.symm, e4.symm, e5.symm, e6.symm⟩
  · by_cases q2 : x = h.n
    · subst q2; rw [h2m] at ho; injection ho with e1 e2 e3 e4 e5 e6; exact .inr (.inl ⟨rfl, e1.symm, e2.symm, e3.symm, e4.symm, e5.symm, e6.symm⟩)
    · exact .inr (.inr ⟨q1, q2, by rw [← h2x x q1 q2]; exact ho⟩)
 have gE : ∀ x bP ro1 f1 st1 k1 c1, h2.o x = .cells bP ro1 f1 st1 k1 c1 → ∃ ro2 st2 k2, h'.o x = .cells bP ro2 f1 st2 k2 c1 := by
  intro x bP ro1 f1 st1 k1 c1 ho
  rcases hcase _ _ _ _ _ _ _ ho with ⟨rfl, rfl, rfl, rfl, rfl, rfl, rfl⟩ | ⟨rfl, rfl, rfl, rfl, rfl, rfl, rfl⟩ | ⟨_, _, q⟩
  · exact ⟨_, _, _, hb'⟩
  · exact ⟨_, _, _, hn'⟩
  · exact ⟨_, _, _, q⟩
 have isn : ∀ x bP ro1 f1 st1 k1 c1, h'.o x = .cells bP ro1 f1 st1 k1 c1 → ∃ ro2 st2 k2, h2.o x = .cells bP ro2 f1 st2 k2 c1 := by
  intro x bP ro1 f1 st1 k1 c1 ho
  by_cases q1 : x = b
  · subst q1; rw [hb'] at ho; injection ho with e1 e2 e3 e4 e5 e6; subst e1 e3 e6; exact ⟨_, _, _, h2b⟩
  · by_cases q2 : x = h.n
    · subst q2; rw [hn'] at ho; injection ho with e1 e2 e3 e4 e5 e6; subst e1 e3 e6; exact ⟨_, _, _, h2m⟩
    · exact ⟨_, _, _, by rw [h2x x q1 q2]; exact ho⟩
 have hrd : ∀ x cx, h2.rd x = some cx → h'.rd x = some cx := by
  intro x cx hx
  rcases iM hx with ⟨bP, ro1, f1, k1, q1⟩ | ⟨bP, ro1, f1, m, k1, fk, ro2, f2, c2, q1, q2⟩
  · rcases hcase _ _ _ _ _ _ _ q1 with ⟨rfl, rfl, rfl, rfl, _, _, rfl⟩ | ⟨rfl, rfl, rfl, rfl, _, _, rfl⟩ | ⟨_, _, q⟩
    · unfold ai.rd; rw [hb']; simp only; rw [hn']; rfl
    · unfold ai.rd; rw [hn']
    · unfold ai.rd; rw [q]
  · rcases hcase _ _ _ _ _ _ _ q1 with ⟨_, _, _, _, q, _⟩ | ⟨_, _, _, _, q, _⟩ | ⟨_, _, q⟩
    · cases q
    · cases q
    · rcases hcase _ _ _ _ _ _ _ q2 with ⟨_, _, _, _, _, q3, _⟩ | ⟨rfl, _, _, _, _, _, rfl⟩ | ⟨_, _, q3⟩
      · omega
      · unfold ai.rd; rw [q]; simp only; rw [hn']; rfl
      · unfold ai.rd; rw [q]; simp only; rw [q3]; rfl
 have hne : ∀ x, x < h.n → h2.o x = h.o x → h'.o x = h.o x := fun x hx e => by
  by_cases q1 : x = b
  · subst q1; rw [h2b, hb] at e; cases e
  · rw [← h2x x q1 (by omega)]; exact e
 have hne2 : ∀ x, x < h.n → h'.o x ≠ h.o x → h2.o x ≠ h.o x := fun x hx e e2 => e (hne x hx e2)
 refine ⟨⟨hm.old, fun x e hx he => ?_, fun x bP ro1 f1 st1 k1 c1 hx ho => ?_, fun x q1 q2 => hm.full x q1 (by rw [← h2n]; exact q2), fun x hx => ?_, by rw [h2n]; exact hm.grow⟩,
  ⟨fun x e hx => by rw [h2n]; exact hr.lt x e hx, hr.gG, fun x e bP ro1 f1 st1 k1 c1 he ho => ?_, fun x e cx i v he hmp hc hv => hr.val x e cx i v he hmp (hrd x cx hc) hv, fun x e bP f1 st1 k1 c1 i he ho hi => ?_, fun b1 e1 b2 e2 bP ro1 f1 st1 k1 c1 fk f2 st2 k2 c2 l1 l2 o1 o2 hf => ?_,
   fun b1 e1 b2 e2 f1 bP ro1 st1 k1 c1 fk ro2 st2 k2 c2 l1 l2 o1 o2 => ?_, fun x bP ro1 f1 m k1 c1 ho => ?_, fun x bP ro1 f1 st1 k1 c1 ho => ?_, fun y z f1 bP ro1 st1 k1 c1 fk ro2 k2 c2 o1 o2 hor => ?_, fun x hx => ?_, fun x e bP ro1 f1 st1 k1 c1 he hmp ho => ?_⟩,
  ⟨hk.os, hk.tape, hk.output, hk.size, fun B hB hall => ?_, fun B off v hc hall => ?_, hk.there⟩⟩
 · rcases hm.new x e hx he with q | ⟨b0, e0, sz0, ro0, f0, st0, k0, c0, q1, q2, q3, q4, q5, q6, sz', ro', st', k', c', q7⟩
   · exact .inl q
   · obtain ⟨r1, r2, r3, r4⟩ := isn _ _ _ _ _ _ _ q7
     exact .inr ⟨b0, e0, sz0, ro0, f0, st0, k0, c0, q1, hne2 b0 (hlt _ _ _ _ _ _ _ q6) q2, q3, q4, q5, q6, _, _, _, _, _, r4⟩
 · obtain ⟨r1, r2, r3, r4⟩ := gE _ _ _ _ _ _ _ ho
   rcases hm.mH x _ _ _ _ _ _ hx r4 with q | ⟨b0, e0, sz0, ro0, st0, k0, c0, q1, q2, q3⟩
   · exact .inl q
   · exact .inr ⟨b0, e0, sz0, ro0, st0, k0, c0, q1, q2, hne2 b0 (hlt _ _ _ _ _ _ _ q2) q3⟩
 · by_cases q1 : x = b
   · subst q1; rw [h2b, hb]; exact ⟨true, none, k + 1, c, rfl, fun _ => rfl, by omega, fun q => by omega, fun m q => by cases q⟩
   · rw [h2x x q1 (by omega)]; exact hm.mw x hx
 · rcases hcase _ _ _ _ _ _ _ ho with ⟨rfl, rfl, rfl, rfl, _, _, rfl⟩ | ⟨rfl, rfl, rfl, rfl, _, _, rfl⟩ | ⟨_, _, q⟩
   · obtain ⟨g1, g2, _, g4⟩ := hr.na _ _ _ _ _ _ _ _ he hb'
     exact ⟨g1, g2, (fun q => by cases q), g4⟩
   · obtain ⟨g1, g2, _, g4⟩ := hr.na _ _ _ _ _ _ _ _ he hn'
     exact ⟨g1, g2, (fun q => by cases q), g4⟩
   · exact hr.na _ _ _ _ _ _ _ _ he q
 · rcases hcase _ _ _ _ _ _ _ ho with ⟨_, _, q, _⟩ | ⟨_, _, q, _⟩ | ⟨_, _, q⟩
   · cases q
   · cases q
   · exact hr.room _ _ _ _ _ _ _ _ he q hi
 · rcases hcase _ _ _ _ _ _ _ o2 with ⟨_, _, q, _⟩ | ⟨_, _, q, _⟩ | ⟨_, _, q⟩
   · cases q
   · cases q
   · obtain ⟨r1, r2, r3, r4⟩ := gE _ _ _ _ _ _ _ o1
     exact hr.apart _ _ _ _ _ _ _ _ _ _ _ _ _ _ _ l1 l2 r4 q hf
 · obtain ⟨r1, r2, r3, r4⟩ := gE _ _ _ _ _ _ _ o1
   obtain ⟨s1, s2, s3, s4⟩ := gE _ _ _ _ _ _ _ o2
   exact hr.link _ _ _ _ _ _ _ _ _ _ _ _ _ _ _ l1 l2 r4 s4
 · rcases hcase _ _ _ _ _ _ _ ho with ⟨_, _, _, _, q, _⟩ | ⟨_, _, _, _, q, _⟩ | ⟨_, _, q⟩
   · cases q
   · cases q
   · obtain ⟨g1, g2, g3, g4, g5, g6, g7⟩ := hr.wf _ _ _ _ _ _ _ q
     obtain ⟨r1, r2, r3, r4⟩ := isn _ _ _ _ _ _ _ g7
     exact ⟨by rw [h2n]; exact g1, _, _, _, _, _, r4⟩
 · obtain ⟨r1, r2, r3, r4⟩ := gE _ _ _ _ _ _ _ ho
   exact hr.jw _ _ _ _ _ _ _ r4
 · rcases hor with rfl | ⟨rfl, rfl⟩
   · rcases hcase _ _ _ _ _ _ _ o2 with ⟨_, _, q, _⟩ | ⟨_, _, q, _⟩ | ⟨_, _, q⟩
     · cases q
     · cases q
     · obtain ⟨r1, r2, r3, r4⟩ := gE _ _ _ _ _ _ _ o1
       exact hr.uniq _ _ _ _ _ _ _ _ _ _ _ _ r4 q (.inl rfl)
   · rcases hcase _ _ _ _ _ _ _ o1 with ⟨_, _, q, _⟩ | ⟨_, _, q, _⟩ | ⟨y1, y2, q⟩
     · cases q
     · cases q
     · rcases hcase _ _ _ _ _ _ _ o2 with ⟨rfl, rfl, rfl, rfl, _, _, rfl⟩ | ⟨rfl, rfl, rfl, rfl, _, _, rfl⟩ | ⟨_, _, q2⟩
       · exfalso
         have a1 := hr.uniq _ _ _ _ _ _ _ _ _ _ _ _ q hn' (.inl rfl)
         have a2 := hr.uniq _ _ _ _ _ _ _ _ _ _ _ _ hn' q (.inl rfl)
         exact y2 (Nat.le_antisymm a1 a2)
       · exact hr.uniq _ _ _ _ _ _ _ _ _ _ _ _ q hn' (.inl rfl)
       · exact hr.uniq _ _ _ _ _ _ _ _ _ _ _ _ q q2 (.inr ⟨rfl, rfl⟩)
 · have a1 := hr.lt
   have q1 : x ≠ b := fun e => by subst e; have := hm.grow; omega
   have q2 : x ≠ h.n := fun e => by subst e; rw [h2n] at hx; rw [hr.out _ hx] at hn'; cases hn'
   rw [h2x x q1 q2]; exact hr.out x (by rw [← h2n]; exact hx)
 · rcases hcase _ _ _ _ _ _ _ ho with ⟨rfl, rfl, rfl, rfl, _, _, rfl⟩ | ⟨rfl, rfl, rfl, rfl, rfl, _, rfl⟩ | ⟨_, _, q⟩
   · exact hr.maps _ _ _ _ _ _ _ _ he hmp hb'
   · exact hr.maps _ _ _ _ _ _ _ _ he hmp hn'
   · exact hr.maps _ _ _ _ _ _ _ _ he hmp q
 · refine hk.block B hB fun b0 e0 q1 q2 => ?_
   rcases hall b0 e0 q1 q2 with q3 | ⟨q3, bP, ro1, f1, st1, k1, c1, fk, ro2, f2, st2, c2, q4, q5⟩
   · exact .inl (hne b0 (hr0.lt b0 e0 q1) q3)
   · have hb0 : b0 ≠ b := fun q => by
       subst q
       rw [hb] at q4; rw [h2b] at q5
       injection q4 with _ _ _ _ q4; injection q5 with _ _ _ _ q5
       omega
     exact .inr ⟨q3, bP, ro1, f1, st1, k1, c1, fk, ro2, f2, st2, c2, q4, by rw [← h2x b0 hb0 (by have := hr0.lt b0 e0 q1; omega)]; exact q5⟩
 · exact hk.cell B off v hc fun b0 e0 q1 q2 q3 q4 => .inl (hne b0 (hr0.lt b0 e0 q1) (hall b0 e0 q1 q2 q3 q4))
theorem cF.vK {ρ : dV} {o : Oper} {s : bN} {v : Value} {h2 : ai} (hs : cF P ρ cU o s v h') (hq : gX s.h h' h2) : cF P ρ (fun x y _ => y = x) o s v h2 :=
 fun r base ι a w K Q hr hb hc hx hk => hs r base ι a w K Q hr hb hc hx fun ι' v' w' d1 d2 d3 d4 => by
  obtain ⟨e1, e2, e3⟩ := vL hq hr d1 d3 d4
  exact hk ι' v' w' e1 d2 e2 e3
theorem cF.pB {ρ : dV} {o : Oper} {s : bN} {v : Value} (hs : cF P ρ (fun x y _ => y = x) o s v h') (hq : Old s.h h') : cF P ρ cU o s v h' :=
 fun r base ι a w K Q hr hb hc hx hk => hs r base ι a w K Q hr hb hc hx fun ι' v' w' d1 d2 d3 d4 => hk ι' v' w' d1 d2 d3
  ⟨d4.os, d4.tape, d4.output, d4.size, d4.block, fun B off u hc hall => d4.cell B off u hc fun b e q1 _ _ _ => hq.2 b (hr.lt b e q1), d4.there⟩
def iA (P : Program) (ρ : dV) (f : FuncId) (args : Array Value) (h : ai) (v : Value) (h' : ai) : Prop :=
 ∀ base ι (w : World) (args' : Array Value), bn base ι h w → base ≤ w.heap.size → db ρ ι h w → fS ι args args' →
  Calls P f args' w fun e w' => ∃ ι' v', e = .returned v' ∧ bw base ι ι' h h' w ∧ aP ι' v v' ∧ bn base ι' h' w' ∧ bg ι h h' w w'
theorem fS.append {xs ys xs' ys' : Array Value} (a : fS ι xs xs') (b : fS ι ys ys') : fS ι (xs ++ ys) (xs' ++ ys') := by
 refine ⟨by simp [a.1, b.1], fun i x y hx hy => ?_⟩
 rcases Nat.lt_or_ge i xs.size with hi | hi
 · rw [Array.getElem?_append_left hi] at hx
   rw [Array.getElem?_append_left (by rw [a.1]; exact hi)] at hy
   exact a.2 i x y hx hy
 · rw [Array.getElem?_append_right hi] at hx
   rw [Array.getElem?_append_right (by rw [a.1]; exact hi), a.1] at hy
   exact b.2 _ x y hx hy
theorem cF.call {ρ : dV} {o : Oper} {s : bN} {f : FuncId} {args : Array Value} {v : Value} (hc : gV P o s = some (f, args)) (hs : iA P ρ f args s.h v h') : cF P ρ (fun x y _ => y = x) o s v h' := by
 intro r base ι a w K Q hr hb hctx hx hk
 unfold gV at hc
 obtain ⟨dst, op, type, pos, after, guard⟩ := o
 simp only at hc hx
 split at hc
 · rename_i g gargs gt
   split at hc
   · rename_i f0 first captured hg
     split at hc
     · rename_i fn hfn
       split at hc
       · rename_i hbody
         injection hc with hc; injection hc with e1 e2; subst e1 e2
         have hrel := hx g (by simp [Op.operands, Call.operands])
         rw [hg] at hrel
         generalize hga : a.eval g = vg at hrel
         cases hrel with
         | atom q => simp [aX] at q
         | func q1 q2 q3 q4 =>
          rename_i ys ws
          have hargs : fS ι (first ++ gargs.map s.ev ++ captured) (ys ++ gargs.map a.eval ++ ws) :=
           fS.append (fS.append ⟨q1.symm, q2⟩ (fS.map fun x hxx => hx x (by simp [Op.operands, Call.operands, hxx]))) ⟨q3.symm, q4⟩
          have hcalls := hs base ι w _ hr hb hctx hargs
          refine ⟨fun _ _ => trivial, ?_⟩
          rw [Oper.semAt_eq _ _ _ (fun c hc => by cases hc)]
          have hrun : (execOp a.eval { dst := dst, op := .call { callee := .value g, args := gargs, argTypes := gt }, type := type, pos := pos, after := after, guard := guard }).run P w = .ok (.enter f0 (ys ++ gargs.map a.eval ++ ws)) w := by
           simp only [execOp, resolve, hga, Deferred.ofValue, Sem.run_bind, Sem.run_pure, Result.andThen_ok, invoke, callFunc, run_program, hfn]
           have e1 : (fn.name == "runtime.NumGoroutine") = false := by simpa using hbody.2
           have e2 : fn.body.isNone = false := by
            have := hbody.1
            cases hb0 : fn.body with
            | none => rw [hb0] at this; cases this
            | some c => rfl
           rw [e1, e2]
           rfl
          rw [hrun]
          simp only [Oper.uponIn]
          refine ⟨fun hd => by simp [FR, Fence.wide] at hd, ?_⟩
          have hin : CallsIn (FR r) 0 P f0 (ys ++ gargs.map a.eval ++ ws) w _ := callsIn_wide.2 hcalls
          refine hin.mono fun e w' ⟨ι', v', he, d1, d2, d3, d4⟩ => ?_
          subst he
          exact hk ι' v' w' d1 d2 d3 d4
       · cases hc
     · cases hc
   · cases hc
 · cases hc
structure WF (h : ai) : Prop where
 wf : ∀ b sz ro f m k c, h.o b = .cells sz ro f (some m) k c → m < h.n ∧ ∃ sz' ro' st' k' c', h.o m = .cells sz' ro' f st' k' c'
 jw : ∀ b sz ro f st k c, h.o b = .cells sz ro f st k c → f ≤ b
 uniq : ∀ y z f bP ro1 st1 k1 c1 fk ro2 k2 c2, h.o y = .cells bP ro1 f st1 k1 c1 → h.o z = .cells fk ro2 f none k2 c2 → (ro2 = false ∨ (ro1 = false ∧ st1 = none)) → y ≤ z
 out : ∀ b, h.n ≤ b → h.o b = .dead
theorem bn.oa (hr : bn base ι h w) : WF h := ⟨hr.wf, hr.jw, hr.uniq, hr.out⟩
theorem WF.lt (hh : WF h) {b sz ro f st k c} (hb : h.o b = .cells sz ro f st k c) : b < h.n := by
 rcases Nat.lt_or_ge b h.n with q | q
 · exact q
 · rw [hh.out b q] at hb; cases hb
theorem WF.new (hh : WF h) (sz : Nat) (ro : Bool) (c : List Value) : WF (h.new (.cells sz ro h.n none 0 c)) := by
 generalize hg : h.new (.cells sz ro h.n none 0 c) = h'
 have hnew : ∀ b, h'.o b = if b = h.n then .cells sz ro h.n none 0 c else h.o b := fun b => by rw [← hg]; rfl
 have hn' : h'.n = h.n + 1 := by rw [← hg]; rfl
 have hcase : ∀ b bP ro1 f1 st1 k1 c1, h'.o b = .cells bP ro1 f1 st1 k1 c1 → (b = h.n ∧ f1 = h.n ∧ st1 = none) ∨ (b < h.n ∧ h.o b = .cells bP ro1 f1 st1 k1 c1) := by
  intro b bP ro1 f1 st1 k1 c1 ho
  rw [hnew] at ho
  split at ho
  · rename_i e1; injection ho with e2 e3 e4 e5 e6 e7; exact .inl ⟨e1, e4.symm, e5.symm⟩
  · exact .inr ⟨hh.lt ho, ho⟩
 refine ⟨?_, ?_, ?_, ?_⟩
 · intro b bP ro1 f1 m k1 c1 ho
   rcases hcase _ _ _ _ _ _ _ ho with ⟨_, _, q⟩ | ⟨_, q⟩
   · cases q
   · obtain ⟨q1, cj, ro3, st3, k3, c3, q2⟩ := hh.wf b _ _ _ _ _ _ q
     exact ⟨by omega, cj, ro3, st3, k3, c3, by rw [hnew, if_neg (by omega)]; exact q2⟩
 · intro b bP ro1 f1 st1 k1 c1 ho
   rcases hcase _ _ _ _ _ _ _ ho with ⟨q1, q2, _⟩ | ⟨_, q⟩
   · omega
   · exact hh.jw b _ _ _ _ _ _ q
 · intro y z f1 bP ro1 st1 k1 c1 fk ro2 k2 c2 o1 o2 hor
   rcases hcase _ _ _ _ _ _ _ o1 with ⟨q1, q2, _⟩ | ⟨q1, q2⟩ <;> rcases hcase _ _ _ _ _ _ _ o2 with ⟨q3, q4, _⟩ | ⟨q3, q4⟩
   · omega
   · have := hh.jw z _ _ _ _ _ _ q4; omega
   · omega
   · exact hh.uniq y z _ _ _ _ _ _ _ _ _ _ q2 q4 hor
 · intro b hb
   rw [hnew, if_neg (by omega)]; exact hh.out b (by omega)
theorem WF.set (hh : WF h) {b sz ro f k c} (hb : h.o b = .cells sz ro f none k c) (k' : Nat) (c' : List Value) : WF (h.set b (.cells sz ro f none k' c')) := by
 generalize hg : h.set b (.cells sz ro f none k' c') = h'
 have hset : ∀ y, h'.o y = if y = b then .cells sz ro f none k' c' else h.o y := fun y => by rw [← hg]; rfl
 have hn' : h'.n = h.n := by rw [← hg]; rfl
 have hsame : ∀ y bP ro1 f1 st1 k1 c1, h'.o y = .cells bP ro1 f1 st1 k1 c1 → ∃ k0 c0, h.o y = .cells bP ro1 f1 st1 k0 c0 := by
  intro y bP ro1 f1 st1 k1 c1 hy
  rw [hset] at hy
  split at hy
  · rename_i e1; subst e1
    injection hy with e1 e2 e3 e4 e5 e6
    subst e1 e2 e3 e4
    exact ⟨k, c, hb⟩
  · exact ⟨k1, c1, hy⟩
 refine ⟨?_, ?_, ?_, ?_⟩
 · intro y bP ro1 f1 m k1 c1 ho
   obtain ⟨_, _, q⟩ := hsame _ _ _ _ _ _ _ ho
   obtain ⟨q1, cj, ro3, st3, k3, c3, q2⟩ := hh.wf y _ _ _ _ _ _ q
   refine ⟨by omega, ?_⟩
   rw [hset]
   split
   · rename_i e1; subst e1
     rw [hb] at q2; injection q2 with _ _ q2; subst q2
     exact ⟨_, _, _, _, _, rfl⟩
   · exact ⟨_, _, _, _, _, q2⟩
 · intro y bP ro1 f1 st1 k1 c1 ho
   obtain ⟨_, _, q⟩ := hsame _ _ _ _ _ _ _ ho
   exact hh.jw y _ _ _ _ _ _ q
 · intro y z f1 bP ro1 st1 k1 c1 fk ro2 k2 c2 o1 o2 hor
   obtain ⟨_, _, q1⟩ := hsame _ _ _ _ _ _ _ o1
   obtain ⟨_, _, q2⟩ := hsame _ _ _ _ _ _ _ o2
   exact hh.uniq y z _ _ _ _ _ _ _ _ _ _ q1 q2 hor
 · intro y hy
   rw [hset, if_neg (by have := hh.lt hb; omega)]; exact hh.out y (by omega)
theorem WF.app (hh : WF h) {b sz f k c} (hb : h.o b = .cells sz false f none k c) (cn : List Value) : WF ((h.set b (.cells sz false f (some h.n) k c)).new (.cells sz false f none 0 cn)) := by
 have hbn := hh.lt hb
 have hfb := hh.jw b _ _ _ _ _ _ hb
 generalize hg : (h.set b (.cells sz false f (some h.n) k c)).new (.cells sz false f none 0 cn) = h'
 have hnew : ∀ y, h'.o y = if y = h.n then .cells sz false f none 0 cn else if y = b then .cells sz false f (some h.n) k c else h.o y := fun y => by rw [← hg]; rfl
 have hn' : h'.n = h.n + 1 := by rw [← hg]; rfl
 have hcase : ∀ y bP ro1 f1 st1 k1 c1, h'.o y = .cells bP ro1 f1 st1 k1 c1 → (y = h.n ∧ f1 = f ∧ st1 = none) ∨
   (y < h.n ∧ ∃ st0, h.o y = .cells bP ro1 f1 st0 k1 c1 ∧ ((y = b ∧ st1 = some h.n) ∨ (y ≠ b ∧ st0 = st1))) := by
  intro y bP ro1 f1 st1 k1 c1 hoy
  rw [hnew] at hoy
  split at hoy
  · rename_i e1; injection hoy with e2 e3 e4 e5 e6 e7; exact .inl ⟨e1, e4.symm, e5.symm⟩
  · split at hoy
    · rename_i e1; subst e1
      injection hoy with e2 e3 e4 e5 e6 e7
      subst e2 e3 e4 e5 e6 e7
      exact .inr ⟨hbn, none, hb, .inl ⟨rfl, rfl⟩⟩
    · rename_i e1; exact .inr ⟨hh.lt hoy, st1, hoy, .inr ⟨e1, rfl⟩⟩
 refine ⟨?_, ?_, ?_, ?_⟩
 · intro y bP ro1 f1 m k1 c1 hoy
   rcases hcase _ _ _ _ _ _ _ hoy with ⟨_, _, q⟩ | ⟨q0, st0, q, ⟨r1, r2⟩ | ⟨r1, r2⟩⟩
   · cases q
   · injection r2 with r2
     subst r1 r2
     rw [hb] at q; injection q with _ _ q; subst q
     exact ⟨by omega, _, _, _, _, _, by rw [hnew, if_pos rfl]⟩
   · subst r2
     obtain ⟨q1, cj, ro3, st3, k3, c3, q2⟩ := hh.wf y _ _ _ _ _ _ q
     refine ⟨by omega, ?_⟩
     rw [hnew, if_neg (by omega)]
     split
     · rename_i e1; subst e1
       rw [hb] at q2; injection q2 with _ _ q2; subst q2
       exact ⟨_, _, _, _, _, rfl⟩
     · exact ⟨_, _, _, _, _, q2⟩
 · intro y bP ro1 f1 st1 k1 c1 hoy
   rcases hcase _ _ _ _ _ _ _ hoy with ⟨q1, q2, _⟩ | ⟨_, st0, q, _⟩
   · omega
   · exact hh.jw y _ _ _ _ _ _ q
 · intro y z f1 bP ro1 st1 k1 c1 fk ro2 k2 c2 o1 o2 hor
   rcases hcase _ _ _ _ _ _ _ o2 with ⟨q3, _⟩ | ⟨q3, st0, q4, ⟨_, q5⟩ | ⟨q5, q6⟩⟩
   · rcases hcase _ _ _ _ _ _ _ o1 with ⟨q1, _⟩ | ⟨q1, _⟩ <;> omega
   · cases q5
   · subst q6
     rcases hcase _ _ _ _ _ _ _ o1 with ⟨q1, q2, _⟩ | ⟨q1, st1', q2, q7⟩
     · exfalso
       subst q2
       have := hh.uniq b z _ _ _ _ _ _ _ _ _ _ hb q4 (.inr ⟨rfl, rfl⟩)
       have := hh.uniq z b _ _ _ _ _ _ _ _ _ _ q4 hb (.inl rfl)
       omega
     · exact hh.uniq y z _ _ _ _ _ _ _ _ _ _ q2 q4 (hor.imp id fun ⟨p1, p2⟩ => ⟨p1, by
         rcases q7 with ⟨_, q⟩ | ⟨_, q⟩
         · rw [q] at p2; cases p2
         · rw [q]; exact p2⟩)
 · intro y hy
   rw [hnew, if_neg (by omega), if_neg (by omega)]; exact hh.out y (by omega)
theorem WF.vK {h2 : ai} (hr : WF h') (hs : gX h h' h2) (hle : h.n ≤ h'.n) (hbn : ∀ b sz ro f st k c, h.o b = .cells sz ro f st k c → b < h.n) : WF h2 := by
 obtain ⟨b, sz, f, k, c, cn, hb, hb', hn', h2n, h2o⟩ := hs
 have hbn := hbn _ _ _ _ _ _ _ hb
 have h2b : h2.o b = .cells sz true f none (k + 1) c := by rw [h2o, if_pos rfl]
 have h2m : h2.o h.n = .cells sz true f none 0 cn := by rw [h2o, if_neg (by omega), if_pos rfl]
 have h2x : ∀ x, x ≠ b → x ≠ h.n → h2.o x = h'.o x := fun x q1 q2 => by rw [h2o, if_neg q1, if_neg q2]
 have hcase : ∀ x bP ro1 f1 st1 k1 c1, h2.o x = .cells bP ro1 f1 st1 k1 c1 → (x = b ∧ ro1 = true ∧ f1 = f ∧ st1 = none) ∨ (x = h.n ∧ ro1 = true ∧ f1 = f ∧ st1 = none) ∨ (x ≠ b ∧ x ≠ h.n ∧ h'.o x = .cells bP ro1 f1 st1 k1 c1) := by
  intro x bP ro1 f1 st1 k1 c1 ho
  by_cases q1 : x = b
  · subst q1; rw [h2b] at ho; injection ho with e1 e2 e3 e4 e5 e6; exact .inl ⟨rfl, e2.symm, e3.symm, e4.symm⟩
  · by_cases q2 : x = h.n
    · subst q2; rw [h2m] at ho; injection ho with e1 e2 e3 e4 e5 e6; exact .inr (.inl ⟨rfl, e2.symm, e3.symm, e4.symm⟩)
    · exact .inr (.inr ⟨q1, q2, by rw [← h2x x q1 q2]; exact ho⟩)
 have gE : ∀ x bP ro1 f1 st1 k1 c1, h2.o x = .cells bP ro1 f1 st1 k1 c1 → ∃ fk ro2 st2 k2 c2, h'.o x = .cells fk ro2 f1 st2 k2 c2 := by
  intro x bP ro1 f1 st1 k1 c1 ho
  rcases hcase _ _ _ _ _ _ _ ho with ⟨rfl, rfl, rfl, rfl⟩ | ⟨rfl, rfl, rfl, rfl⟩ | ⟨_, _, q⟩
  · exact ⟨_, _, _, _, _, hb'⟩
  · exact ⟨_, _, _, _, _, hn'⟩
  · exact ⟨_, _, _, _, _, q⟩
 have isn : ∀ x bP ro1 f1 st1 k1 c1, h'.o x = .cells bP ro1 f1 st1 k1 c1 → ∃ fk ro2 st2 k2 c2, h2.o x = .cells fk ro2 f1 st2 k2 c2 := by
  intro x bP ro1 f1 st1 k1 c1 ho
  by_cases q1 : x = b
  · subst q1; rw [hb'] at ho; injection ho with e1 e2 e3 e4 e5 e6; subst e3; exact ⟨_, _, _, _, _, h2b⟩
  · by_cases q2 : x = h.n
    · subst q2; rw [hn'] at ho; injection ho with e1 e2 e3 e4 e5 e6; subst e3; exact ⟨_, _, _, _, _, h2m⟩
    · exact ⟨_, _, _, _, _, by rw [h2x x q1 q2]; exact ho⟩
 refine ⟨fun x bP ro1 f1 m k1 c1 ho => ?_, fun x bP ro1 f1 st1 k1 c1 ho => ?_, fun y z f1 bP ro1 st1 k1 c1 fk ro2 k2 c2 o1 o2 hor => ?_, fun x hx => ?_⟩
 · rcases hcase _ _ _ _ _ _ _ ho with ⟨_, _, _, q⟩ | ⟨_, _, _, q⟩ | ⟨_, _, q⟩
   · cases q
   · cases q
   · obtain ⟨g1, g2, g3, g4, g5, g6, g7⟩ := hr.wf _ _ _ _ _ _ _ q
     obtain ⟨r0, r1, r2, r3, r5, r4⟩ := isn _ _ _ _ _ _ _ g7
     exact ⟨by rw [h2n]; exact g1, _, _, _, _, _, r4⟩
 · obtain ⟨r0, r1, r2, r3, r5, r4⟩ := gE _ _ _ _ _ _ _ ho
   exact hr.jw _ _ _ _ _ _ _ r4
 · rcases hor with rfl | ⟨rfl, rfl⟩
   · rcases hcase _ _ _ _ _ _ _ o2 with ⟨_, q, _⟩ | ⟨_, q, _⟩ | ⟨_, _, q⟩
     · cases q
     · cases q
     · obtain ⟨r0, r1, r2, r3, r5, r4⟩ := gE _ _ _ _ _ _ _ o1
       exact hr.uniq _ _ _ _ _ _ _ _ _ _ _ _ r4 q (.inl rfl)
   · rcases hcase _ _ _ _ _ _ _ o1 with ⟨_, q, _⟩ | ⟨_, q, _⟩ | ⟨y1, y2, q⟩
     · cases q
     · cases q
     · rcases hcase _ _ _ _ _ _ _ o2 with ⟨rfl, rfl, rfl, _⟩ | ⟨rfl, rfl, rfl, _⟩ | ⟨_, _, q2⟩
       · exfalso
         have a1 := hr.uniq _ _ _ _ _ _ _ _ _ _ _ _ q hn' (.inl rfl)
         have a2 := hr.uniq _ _ _ _ _ _ _ _ _ _ _ _ hn' q (.inl rfl)
         exact y2 (Nat.le_antisymm a1 a2)
       · exact hr.uniq _ _ _ _ _ _ _ _ _ _ _ _ q hn' (.inl rfl)
       · exact hr.uniq _ _ _ _ _ _ _ _ _ _ _ _ q q2 (.inr ⟨rfl, rfl⟩)
 · have q1 : x ≠ b := fun e => by subst e; omega
   have q2 : x ≠ h.n := fun e => by subst e; rw [h2n] at hx; rw [hr.out _ hx] at hn'; cases hn'
   rw [h2x x q1 q2]; exact hr.out x (by rw [← h2n]; exact hx)
theorem kh {o : Oper} {s : bN} {v : Value} (hv : eg P o s = some (v, h')) (hh : WF s.h) : WF h' ∧ s.h.n ≤ h'.n := by
 unfold eg at hv
 simp only at hv
 have mp : ∀ {α : Type} {x : Option α} {u : α} {g : ai}, x.map (·, s.h) = some (u, g) → WF g ∧ s.h.n ≤ g.n := fun hx => by
  obtain ⟨_, rfl⟩ := dN hx; exact ⟨hh, Nat.le_refl _⟩
 split at hv
 all_goals first
  | exact mp hv
  | (injection hv with hv; injection hv with h1 h2; subst h2; exact ⟨hh, Nat.le_refl _⟩)
  | skip
 · split at hv
   · injection hv with hv; injection hv with h1 h2; subst h2; exact ⟨hh, Nat.le_refl _⟩
   · injection hv with hv; injection hv with h1 h2; subst h2; exact ⟨hh, Nat.le_refl _⟩
   · cases hv
 · rename_i t _
   cases hz : zeroOf P t with
   | none => rw [hz] at hv; cases hv
   | some z => rw [hz] at hv; injection hv with hv; injection hv with h1 h2; subst h2; exact ⟨hh.new _ _ _, Nat.le_succ _⟩
 · split at hv
   · injection hv with hv; injection hv with h1 h2; subst h2; exact ⟨hh.new _ _ _, Nat.le_succ _⟩
   · cases hv
 · unfold pS at hv
   split at hv
   · split at hv
     · split at hv
       · injection hv with hv; injection hv with h1 h2; subst h2; exact ⟨hh.new _ _ _, Nat.le_succ _⟩
       · cases hv
     · cases hv
   · cases hv
 · split at hv
   · exact mp hv
   · cases hv
 · rename_i t x y _
   split at hv
   · rename_i b off _
     cases hs : gg P s.h t b off (s.ev y) with
     | none => rw [hs] at hv; cases hv
     | some g =>
      rw [hs] at hv; injection hv with hv; injection hv with h1 h2; subst h2
      unfold gg at hs
      split at hs
      · rename_i sz f k c ho
        split at hs
        · injection hs with hs; subst hs; exact ⟨hh.set ho _ _, Nat.le_refl _⟩
        · cases hs
      · cases hs
   · cases hv
 · injection hv with hv; injection hv with h1 h2; subst h2; exact ⟨hh.new _ _ _, Nat.le_succ _⟩
 · split at hv
   · injection hv with hv; injection hv with h1 h2; subst h2; exact ⟨hh, Nat.le_refl _⟩
   · cases hv
 · split at hv
   · split at hv
     · unfold lW at hv
       split at hv
       · split at hv
         · split at hv
           · injection hv with hv; injection hv with h1 h2; subst h2; exact ⟨hh.new _ _ _, Nat.le_succ _⟩
           · cases hv
         · cases hv
       · cases hv
     · cases hv
   · cases hv
 · split at hv
   · exact mp hv
   · cases hv
 · split at hv
   · exact mp hv
   · split at hv
     · unfold rI at hv
       split at hv
       · injection hv with hv; injection hv with h1 h2; subst h2; exact ⟨hh.new _ _ _, Nat.le_succ _⟩
       · cases hv
     · exact mp hv
 · split at hv
   · exact mp hv
   · cases hv
 · split at hv
   · split at hv
     · unfold eY at hv
       split at hv
       · cases hv
       split at hv
       case h_2 => cases hv
       split at hv
       case h_2 => cases hv
       split at hv
       · cases hv
       split at hv
       · split at hv
         · injection hv with hv; injection hv with h1 h2; subst h2; exact ⟨hh, Nat.le_refl _⟩
         · split at hv
           · injection hv with hv; injection hv with h1 h2; subst h2; exact ⟨hh.new _ _ _, Nat.le_succ _⟩
           · cases hv
       · split at hv
         · rename_i ho
           split at hv
           · rename_i hc
             obtain rfl := hc.1
             injection hv with hv; injection hv with h1 h2; subst h2; exact ⟨hh.app ho _, Nat.le_succ _⟩
           · cases hv
         · cases hv
       · cases hv
     · cases hv
   · cases hv
 all_goals cases hv
def cm : Op → Bool
 | .move _ | .assign _ | .pick .. | .binOp .. | .unOp .. | .build .. | .nilCheck _ | .makeFunc (.func _) _ _ | .fieldAddr .. | .field .. | .indexAddr .. | .index .. | .extract .. => true
 | .call { callee := .builtin .len, .. } | .call { callee := .builtin .min, .. } | .call { callee := .builtin .max, .. } => true
 | _ => false
theorem kG (s : bN) (g : ai) : ({ s with h := g } : bN).ev = s.ev := by funext x; cases x <;> rfl
theorem nP {o : Oper} {s : bN} {v : Value} (hp : cm o.op = true) (hv : eg P o s = some (v, h')) : h' = s.h ∧ ∀ g, eg P o { s with h := g } = some (v, g) := by
 have mp : ∀ {α : Type} {x : Option α} {u : α}, x.map (·, s.h) = some (u, h') → h' = s.h ∧ ∀ g : ai, x.map (·, g) = some (u, g) := fun hx => by
  obtain ⟨h1, h2⟩ := dN hx; subst h1; exact ⟨h2, fun _ => rfl⟩
 obtain ⟨dst, op, type, pos, after, guard⟩ := o
 unfold eg at hv ⊢
 simp only [kG] at hv ⊢
 cases op with
 | call c =>
  obtain ⟨callee, args, argTypes⟩ := c
  cases callee with
  | builtin b =>
   cases b <;> first
    | (simp [cm] at hp; done)
    | exact mp hv
    | (simp only at hv ⊢; split at hv <;> first | exact mp hv | cases hv)
  | _ => simp [cm] at hp
 | makeFunc fn first captured =>
  cases fn <;> first
   | (simp [cm] at hp; done)
   | (injection hv with hv; injection hv with h1 h2; subst h1 h2; exact ⟨rfl, fun _ => rfl⟩)
 | pick c a b => simp only at hv ⊢; split at hv <;> first | (injection hv with hv; injection hv with h1 h2; subst h1 h2; exact ⟨rfl, fun _ => rfl⟩) | cases hv
 | nilCheck x => simp only at hv ⊢; split at hv <;> first | (injection hv with hv; injection hv with h1 h2; subst h1 h2; exact ⟨rfl, fun _ => rfl⟩) | cases hv
 | extract x i => simp only at hv ⊢; split at hv <;> first | exact mp hv | cases hv
 | move x => injection hv with hv; injection hv with h1 h2; subst h1 h2; exact ⟨rfl, fun _ => rfl⟩
 | assign x => injection hv with hv; injection hv with h1 h2; subst h1 h2; exact ⟨rfl, fun _ => rfl⟩
 | _ => first | (simp [cm] at hp; done) | exact mp hv
theorem nz {o : Oper} {s : bN} {v : Value} (hv : pK P o s = some (v, h')) : cm o.op = false := by
 unfold pK at hv
 split at hv
 · rename_i hop; rw [hop]; rfl
 · rename_i hop; rw [hop]; rfl
 · cases hv
theorem sG {o : Oper} {s : bN} {v : Value} (hv : pK P o s = some (v, h')) (hh : WF s.h) : WF h' ∧ s.h.n ≤ h'.n := by
 obtain ⟨b, sz, f, n, c, c', hob, rfl⟩ := sK hv
 exact ⟨hh.set hob _ _, Nat.le_refl _⟩
theorem cF.map {ρ : dV} {o : Oper} {s : bN} {v : Value} (hv : pK P o s = some (v, h')) : cF P ρ cU o s v h' := by
 intro r base ι a w K Q hr hb _ hx hk
 obtain ⟨v', w', nx, hrun, hnx, ι', d1, d2, d3, d4⟩ := yg hv hr hx
 refine ⟨fun _ _ => trivial, ?_⟩
 rw [Oper.semAt_eq _ _ _ (tK hv), hrun]
 rcases hnx with rfl | ⟨rfl, rfl⟩
 · exact hk ι' v' w' d1 d2 d3 d4
 · exact hk ι' _ w' d1 d2 d3 d4
end Go.Proofs.YthekokdpplobhaaGreat.Eng
set_option linter.unusedVariables false
set_option linter.unusedSimpArgs false
namespace Go.Proofs.YthekokdpplobhaaGreat.Eng
variable {P : Program} {base : Nat} {ι ι1 ι2 : Lay} {h h' h1 h2 : ai} {w w1 w2 : World}
inductive hY (P : Program) (ρ : dV) (ops : Array Oper) (mq lz : Nat → Bool) : List (Nat × Bool) → List Nat → bN → bN → Prop
 | nil {Z s} : hY P ρ ops mq lz Z [] s s
 | op {Z i o rest s v h' s'} : ops[i]? = some o → cv ops o s = true → cF P ρ (fun x y _ => y = x) o s v h' → (mq i = true → Quiet s.h h' ∧ cF P ρ cU o s v h') →
     (WF s.h → WF h' ∧ s.h.n ≤ h'.n) → (cm o.op = true → h' = s.h ∧ ∀ g, cF P ρ cU o { s with h := g } v g) → lz i = false → (∀ b ∈ Z, dh (h'.o b.1) (s.h.o b.1)) →
     hY P ρ ops mq lz Z rest (s.put o.dst v h') s' → hY P ρ ops mq lz Z (i :: rest) s s'
 | lazy {Z i o rest s v s' b} : ops[i]? = some o → cv ops o s = true → cF P ρ (fun x y _ => y = x) o s v s.h → cm o.op = false → lz (i + 65536) = false → fY v = true → (∀ g : ai, dh (g.o b) (s.h.o b) → cF P ρ cU o { s with h := g } v g) →
     hY P ρ ops mq lz ((b, false) :: Z) rest (s.put o.dst v s.h) s' → hY P ρ ops mq lz Z (i :: rest) s s'
 | early {Z i o rest s v s' b} : ops[i]? = some o → cv ops o s = true → cF P ρ (fun x y _ => y = x) o s v s.h → cm o.op = false → xO s.h.n v → (∀ g : ai, dh (g.o b) (s.h.o b) → cF P ρ cU o { s with h := g } v g) → (b, true) ∈ Z →
     hY P ρ ops mq lz Z rest (s.put o.dst v s.h) s' → hY P ρ ops mq lz Z (i :: rest) s s'
 | skip {Z i o rest s s'} : ops[i]? = some o → cv ops o s = false → hY P ρ ops mq lz Z rest (s.put o.dst undef s.h) s' → hY P ρ ops mq lz Z (i :: rest) s s'
theorem iQ {ops : Array Oper} {o : Oper} {s : bN} {a : Act}
  (ht : ∀ j want d, o.guard = some (j, want) → ((ops[j]?).bind (·.dst)) = some d → aP ι (s.t d) (a.tmps.getD d undef)) : Region.wanted o (yielded ops a.tmps) = cv ops o s := by
 unfold Region.wanted cv
 unfold Region.wanted
 cases hg : o.guard with
 | none => rfl
 | some p =>
  obtain ⟨j, want⟩ := p
  simp only
  congr 1
  unfold yielded
  cases hd : (ops[j]?).bind (·.dst) with
  | none => rfl
  | some d =>
   simp only [Option.bind_some]
   have hr := ht j want d hg hd
   have e1 : (match a.tmps[d]? with | some (.bool b) => some b | _ => none) = (match a.tmps.getD d undef with | .bool b => some b | _ => none) := by
    rw [Array.getD_eq_getD_getElem?]
    cases a.tmps[d]? with
    | none => rfl
    | some v => cases v <;> rfl
   refine e1.trans ?_
   clear e1
   generalize a.tmps.getD d undef = v' at hr
   generalize s.t d = v at hr
   cases hr <;> rfl
theorem iP {ops : Array Oper} {m : Nat} (hk : fG ops m = true) {i : Nat} {o : Oper} (ho : ops[i]? = some o) : (∀ d, o.dst = some d → d < m) ∧ ∀ x ∈ o.op.operands, dZ x = true := by
 unfold fG at hk
 have hm : o ∈ ops.toList := Array.mem_toList_iff.2 (Array.mem_of_getElem? ho)
 have := List.all_eq_true.1 hk o hm
 simp only [Bool.and_eq_true, List.all_eq_true] at this
 refine ⟨fun d hd => ?_, fun x hx => this.2 x (Array.mem_toList_iff.2 hx)⟩
 have h1 := this.1
 rw [hd] at h1
 exact of_decide_eq_true h1
theorem dR (s : bN) (dst : Option Tmp) (v : Value) (h : ai) : (s.put dst v h).m = s.m := by cases dst <;> rfl
theorem bk (s : bN) (dst : Option Tmp) (v : Value) (h : ai) : (s.put dst v h).h = h := by cases dst <;> rfl
theorem eS (a : Act) (dst : Option Tmp) (v : Value) : (a.put dst v).defers = a.defers := by cases dst <;> rfl
theorem jZ {ρ : dV} {ops : Array Oper} {mq lz : Nat → Bool} {Z : List (Nat × Bool)} {todo : List Nat} {s s' : bN} (ht : hY P ρ ops mq lz Z todo s s') (hk : fG ops s.m = true) (more : List Nat) :
  s'.m = s.m ∧ ∀ r base ι (a : Act) (w : World) (Q : Exit → Act → World → Prop), eK base ι s a w → db ρ ι s.h w →
   (∀ ι' a' w', eK base ι' s' a' w' → bw base ι ι' s.h s'.h w → bg ι s.h s'.h w w' → a'.defers = a.defers → wpOpsIn (FR r) 0 P ops Q more a' w') → wpOpsIn (FR r) 0 P ops Q (todo ++ more) a w := by
 induction ht with
 | nil => exact ⟨rfl, fun r base ι a w Q hs hc hq => hq ι a w hs (bw.refl hs.heap) (eL.zero (dE.refl ι _ w)) rfl⟩
 | @op Z i o rest s v h' s' ho hw hsem _ _ _ _ _ hrest ih =>
  obtain ⟨im, ih⟩ := ih (by rw [dR]; exact hk)
  obtain ⟨k1, k2⟩ := iP hk ho
  refine ⟨by rw [im, dR], fun r base ι a w Q hs hc hq => ?_⟩
  rw [List.cons_append, wpOpsIn_cons]
  unfold wpOpIn
  simp only [ho]
  rw [iQ fun j want d _ _ => hs.tmps d, hw, if_pos rfl]
  refine hsem r base ι a w _ Q hs.heap hs.base hc (fun x hx => dy hs.tmps (k2 x hx)) fun ι' v' w' d1 d2 d3 d4 => ?_
  have hs' := hs.put k1 d1 d2 d3 d4.size
  refine ih r base ι' _ w' Q hs' (by rw [bk]; exact hc.more hs.heap d1 d4) fun ι2 a2 w2 s2 m2 c2 e2 => ?_
  rw [bk] at m2 c2
  exact hq ι2 a2 w2 s2 (bw.trans hs.heap d3 d1 m2 d4.size) (bg.trans hs.heap d3 d1 m2 d4 c2) (by rw [e2, eS])
 | @lazy Z i o rest s v s' b ho hw hsem _ _ _ _ hrest ih =>
  obtain ⟨im, ih⟩ := ih (by rw [dR]; exact hk)
  obtain ⟨k1, k2⟩ := iP hk ho
  refine ⟨by rw [im, dR], fun r base ι a w Q hs hc hq => ?_⟩
  rw [List.cons_append, wpOpsIn_cons]
  unfold wpOpIn
  simp only [ho]
  rw [iQ fun j want d _ _ => hs.tmps d, hw, if_pos rfl]
  refine hsem r base ι a w _ Q hs.heap hs.base hc (fun x hx => dy hs.tmps (k2 x hx)) fun ι' v' w' d1 d2 d3 d4 => ?_
  have hs' := hs.put k1 d1 d2 d3 d4.size
  refine ih r base ι' _ w' Q hs' (by rw [bk]; exact hc.more hs.heap d1 d4) fun ι2 a2 w2 s2 m2 c2 e2 => ?_
  rw [bk] at m2 c2
  exact hq ι2 a2 w2 s2 (bw.trans hs.heap d3 d1 m2 d4.size) (bg.trans hs.heap d3 d1 m2 d4 c2) (by rw [e2, eS])
 | @early Z i o rest s v s' b ho hw hsem _ _ _ _ hrest ih =>
  obtain ⟨im, ih⟩ := ih (by rw [dR]; exact hk)
  obtain ⟨k1, k2⟩ := iP hk ho
  refine ⟨by rw [im, dR], fun r base ι a w Q hs hc hq => ?_⟩
  rw [List.cons_append, wpOpsIn_cons]
  unfold wpOpIn
  simp only [ho]
  rw [iQ fun j want d _ _ => hs.tmps d, hw, if_pos rfl]
  refine hsem r base ι a w _ Q hs.heap hs.base hc (fun x hx => dy hs.tmps (k2 x hx)) fun ι' v' w' d1 d2 d3 d4 => ?_
  have hs' := hs.put k1 d1 d2 d3 d4.size
  refine ih r base ι' _ w' Q hs' (by rw [bk]; exact hc.more hs.heap d1 d4) fun ι2 a2 w2 s2 m2 c2 e2 => ?_
  rw [bk] at m2 c2
  exact hq ι2 a2 w2 s2 (bw.trans hs.heap d3 d1 m2 d4.size) (bg.trans hs.heap d3 d1 m2 d4 c2) (by rw [e2, eS])
 | @skip Z i o rest s s' ho hw hrest ih =>
  obtain ⟨im, ih⟩ := ih (by rw [dR]; exact hk)
  obtain ⟨k1, k2⟩ := iP hk ho
  refine ⟨by rw [im, dR], fun r base ι a w Q hs hc hq => ?_⟩
  rw [List.cons_append, wpOpsIn_cons]
  unfold wpOpIn
  simp only [ho]
  rw [iQ fun j want d _ _ => hs.tmps d, hw]
  simp only [Bool.false_eq_true, if_false]
  refine ⟨fun _ _ => trivial, ?_⟩
  have hs' := hs.put k1 (bw.refl hs.heap) (aP.undef) hs.heap (Nat.le_refl _)
  refine ih r base ι _ w Q hs' (by rw [bk]; exact hc) fun ι2 a2 w2 s2 m2 c2 e2 => ?_
  rw [bk] at m2 c2
  exact hq ι2 a2 w2 s2 m2 c2 (by rw [e2, eS])
theorem s9 {ρ : dV} {ops : Array Oper} {mq lz : Nat → Bool} {Z : List (Nat × Bool)} {todo : List Nat} {s s' : bN} (ht : hY P ρ ops mq lz Z todo s s') (hk : fG ops s.m = true) :
  s'.m = s.m ∧ ∀ r base ι (a : Act) (w : World) (Q : Exit → Act → World → Prop), eK base ι s a w → db ρ ι s.h w →
   (∀ ι' a' w', eK base ι' s' a' w' → bw base ι ι' s.h s'.h w → bg ι s.h s'.h w w' → a'.defers = a.defers → Q .normal a' w') → wpOpsIn (FR r) 0 P ops Q todo a w :=
 ⟨(jZ ht hk []).1, fun r base ι a w Q h1 h2 h3 => by
  have := (jZ ht hk []).2 r base ι a w Q h1 h2 h3
  rwa [List.append_nil] at this⟩
def fO (ρ : dV) (lim : Nat) (ι : Lay) (h : ai) (w : World) (ds : List Deferred) : Prop :=
 (∀ d ∈ ds, ∃ D, d = { target := .collected D, args := #[] } ∧ lim ≤ D ∧ w.heap[D]? = some (.deferred (some [])) ∧ tA ι h D) ∧ (ds.Pairwise fun d e => d.target ≠ e.target) ∧ (ρ.nf = true → ds = [])
theorem fO.nil {ρ : dV} {lim : Nat} : fO ρ lim ι h w [] := ⟨by simp, List.Pairwise.nil, fun _ => rfl⟩
def nS (P : Program) (ρ : dV) (c : Code) (s : bN) (e : Exit) (s' : bN) : Prop :=
 (e = .normal ∨ e = .ret ∨ ∃ id, e = .exit id) ∧ s'.m = s.m ∧
 (∀ r base ι (a : Act) (w : World) (Q : Exit → Act → World → Prop), (ρ.r = false → r = none) → eK base ι s a w → db ρ ι s.h w →
  (∀ ι' a' w' ds, eK base ι' s' a' w' → bw base ι ι' s.h s'.h w → bg ι s.h s'.h w w' → a'.defers = ds ++ a.defers → fO ρ w.heap.size ι' s'.h w' ds → Q e a' w') → c.wpIn (FR r) 0 P Q a w) ∧
 (∀ c0, c = .loop c0 → ∃ n, ∀ r base ι (a : Act) (w : World) (Q : Exit → Act → World → Prop), (ρ.r = false → r = none) → eK base ι s a w → db ρ ι s.h w →
  (∀ ι' a' w' ds, eK base ι' s' a' w' → bw base ι ι' s.h s'.h w → bg ι s.h s'.h w w' → a'.defers = ds ++ a.defers → fO ρ w.heap.size ι' s'.h w' ds → Q e a' w') → Code.roundsIn (FR r) 0 P c0 Q n a w)
theorem fO.more {ρ : dV} {lim : Nat} {ds es : List Deferred} (hd : fO ρ lim ι1 h1 w1 ds) (hr : bn base ι1 h1 w1) (hm : bw base ι1 ι2 h1 h2 w1) (hk : bg ι1 h1 h2 w1 w2) (he : fO ρ w1.heap.size ι2 h2 w2 es) (hl : lim ≤ w1.heap.size) :
  fO ρ lim ι2 h2 w2 (es ++ ds) := by
 refine ⟨fun d hm2 => ?_, ?_, fun hn => by rw [he.2.2 hn, hd.2.2 hn]; rfl⟩
 · rcases List.mem_append.1 hm2 with q | q
   · obtain ⟨D, q1, q2, q3, q4⟩ := he.1 d q
     exact ⟨D, q1, Nat.le_trans hl q2, q3, q4⟩
   · obtain ⟨D, q1, q2, q3, q4⟩ := hd.1 d q
     have hlt : D < w1.heap.size := (Array.getElem?_eq_some_iff.1 q3).1
     exact ⟨D, q1, q2, by rw [q4.aq hr hm hk hlt]; exact q3, q4.more hr hm hlt⟩
 · rw [List.pairwise_append]
   refine ⟨he.2.1, hd.2.1, fun d h1 e h2 heq => ?_⟩
   obtain ⟨D, q1, q2, q3, q4⟩ := he.1 d h1
   obtain ⟨E, r1, r2, r3, r4⟩ := hd.1 e h2
   have hlt : E < w1.heap.size := (Array.getElem?_eq_some_iff.1 r3).1
   rw [q1, r1] at heq
   injection heq with heq
   omega
def wq (tmps : Array Value) : ResultVar → Sem Value
 | .tmp t => pure (tmps.getD t undef)
 | .cell b t => do loadVar t (← asAddr (tmps.getD b undef))
theorem rO (fn : Func) (tmps : Array Value) : results fn tmps = (do let vs ← fn.results.mapM (wq tmps); pure (if h : vs.size = 1 then vs[0] else .tuple vs)) := by
 unfold results
 congr 1
theorem vf {s : bN} {a : Act} (hs : eK base ι s a w) {r : ResultVar} {v : Value} (hv : oQ P s r = some v) : ∃ v', (wq a.tmps r).run P w = .ok v' w ∧ aP ι v v' := by
 cases r with
 | tmp t => injection hv with hv; subst hv; exact ⟨_, rfl, hs.tmps t⟩
 | cell b t =>
  simp only [oQ] at hv
  split at hv
  · rename_i b0 off hb
    have hp := hs.tmps b
    rw [hb] at hp
    obtain ⟨e, he, hmp, hpe⟩ := hp.kL
    obtain ⟨v', hrun, hrel⟩ := sO (P := P) hs.heap he hmp hv
    exact ⟨v', by simp only [wq, hpe, asAddr, Sem.run_bind, Sem.run_pure, Result.andThen_ok]; exact hrun, hrel⟩
  · cases hv
theorem gy {fn : Func} {s : bN} {a : Act} (hs : eK base ι s a w) {vs : List Value} (hv : cr P fn s = some vs) : ∃ v', (results fn a.tmps).run P w = .ok v' w ∧ aP ι (eB vs) v' := by
 unfold cr at hv
 have key : ∀ (rs : List ResultVar) (vs : List Value), rs.mapM (oQ P s) = some vs →
   ∃ vs' : List Value, (rs.mapM (wq a.tmps)).run P w = .ok vs' w ∧ vs'.length = vs.length ∧ ∀ (i : Nat) v v', vs[i]? = some v → vs'[i]? = some v' → aP ι v v' := by
  intro rs
  induction rs with
  | nil => intro vs h; simp at h; subst h; exact ⟨[], rfl, rfl, by simp⟩
  | cons r rs ih =>
   intro vs hv
   rw [List.mapM_cons] at hv
   cases hr : oQ P s r with
   | none => rw [hr] at hv; cases hv
   | some v =>
    cases hm : rs.mapM (oQ P s) with
    | none => rw [hr, hm] at hv; cases hv
    | some vs1 =>
     rw [hr, hm] at hv
     obtain rfl := Option.some.inj hv
     obtain ⟨v', hrun, hrel⟩ := vf hs hr
     obtain ⟨vs', q1, q2, q3⟩ := ih vs1 hm
     refine ⟨v' :: vs', ?_, by simp [q2], fun i u u' hu hu' => ?_⟩
     · rw [List.mapM_cons]
       simp only [Sem.run_bind, hrun, Result.andThen_ok, q1, Sem.run_pure]
     · cases i with
       | zero => simp at hu hu'; subst hu hu'; exact hrel
       | succ i => exact q3 i u u' (by simpa using hu) (by simpa using hu')
 obtain ⟨vs', q1, q2, q3⟩ := key fn.results.toList vs hv
 refine ⟨if hl : vs'.toArray.size = 1 then vs'.toArray[0] else .tuple vs'.toArray, ?_, ?_⟩
 · rw [rO, Array.mapM_eq_mapM_toList]
   simp only [Sem.run_bind, Sem.run_map, q1, Result.andThen_ok, Sem.run_pure]
 · match vs, vs', q2, q3 with
   | [], [], _, _ => exact .tuple rfl fun i v v' a _ => by simp at a
   | [v], [v'], _, q3 => exact q3 0 v v' rfl rfl
   | v1 :: v2 :: vs, u1 :: u2 :: us, q2, q3 =>
    simp only [List.size_toArray, List.length_cons]
    rw [dif_neg (by omega)]
    exact .tuple (by simp at q2 ⊢; exact q2.symm) fun i v v' a b => q3 i v v' (by simpa using a) (by simpa using b)
def ye : ep → ep
 | .dead => .dead
 | .cells sz _ f st k c => .cells sz false f st k c
def ai.un (F : Nat → Bool) (h : ai) : ai := { n := h.n, o := fun b => bif F b then ye (h.o b) else h.o b }
def ma (h h' : ai) : Prop :=
 h' = h ∨ (∃ sz c, h' = h.new (.cells sz false h.n none 0 c)) ∨ ∃ b sz f k c c', h.o b = .cells sz false f none k c ∧ h' = h.set b (.cells sz false f none (k + 1) c')
def lx (P : Program) (f : FuncId) (args : Array Value) (h : ai) (v : Value) (h' : ai) : Prop :=
 ma h h' ∧ ∀ (F : Nat → Bool) (ρ : dV), iA P ρ f args (h.un F) v (h'.un F)
inductive ee (P : Program) (dr : Array Oper → (Nat → Bool) → (Nat → Bool) → Prop) : dV → J → Prop where
 | skip {ρ s} : ee P dr ρ (.code .skip s .normal s)
 | label {ρ l s} : ee P dr ρ (.code (.label l) s .normal s)
 | exit {ρ id s} : ee P dr ρ (.code (.exit id) s (.exit id) s)
 | ret {ρ s} : ee P dr ρ (.code .ret s .ret s)
 | region {ρ id ops s s'} : fG ops s.m = true → ee P dr ρ (.ops ops (fun _ => false) (fun _ => false) [] (List.range ops.size) s s') → ee P dr ρ (.code (.region id ops false) s .normal s')
 | draw {ρ id ops mq lz Z s s'} : fG ops s.m = true → dr ops mq lz → ee P dr .none (.ops ops mq lz Z (List.range ops.size) s s') → ee P dr ρ (.code (.region id ops true) s .normal s')
 | kV {ρ a b s s1 e s'} : ee P dr ρ (.code a s .normal s1) → ee P dr ρ (.code b s1 e s') → ee P dr ρ (.code (.seq a b) s e s')
 | kZ {ρ a b s e s'} : ee P dr ρ (.code a s e s') → e ≠ .normal → ee P dr ρ (.code (.seq a b) s e s')
 | jz {ρ c x y s e s'} : s.ev c = .bool true → dZ c = true → ee P dr ρ (.code x s e s') → ee P dr ρ (.code (.cond c x y) s e s')
 | jd {ρ c x y s e s'} : s.ev c = .bool false → dZ c = true → ee P dr ρ (.code y s e s') → ee P dr ρ (.code (.cond c x y) s e s')
 | gP {ρ id c s e s'} : ee P dr ρ (.code c s e s') → e ≠ .exit id → ee P dr ρ (.code (.block id c) s e s')
 | gR {ρ id c s s'} : ee P dr ρ (.code c s (.exit id) s') → ee P dr ρ (.code (.block id c) s .normal s')
 | jk {ρ c s s1 e s'} : ee P dr ρ (.code c s .normal s1) → ee P dr ρ (.code (.loop c) s1 e s') → ee P dr ρ (.code (.loop c) s e s')
 | jn {ρ c s e s'} : ee P dr ρ (.code c s e s') → e ≠ .normal → ee P dr ρ (.code (.loop c) s e s')
 | scope {ρ c s e s'} : ee P dr ρ (.code c s e s') → ee P dr ρ (.code (.scope c) s e s')
 | nil {ρ ops mq lz Z s} : ee P dr ρ (.ops ops mq lz Z [] s s)
 | op {ρ ops mq lz Z i o rest s v h' s'} : ops[i]? = some o → cv ops o s = true → eg P o s = some (v, h') → (mq i = true → Quiet s.h h') → lz i = false → (∀ b ∈ Z, h'.o b.1 = s.h.o b.1) →
     ee P dr ρ (.ops ops mq lz Z rest (s.put o.dst v h') s') → ee P dr ρ (.ops ops mq lz Z (i :: rest) s s')
 | jm {ρ ops mq lz Z i o rest s v h' h2 s'} : ops[i]? = some o → cv ops o s = true → eg P o s = some (v, h') → gX s.h h' h2 → mq i = false → lz i = false → (∀ b ∈ Z, h2.o b.1 = s.h.o b.1) →
     ee P dr ρ (.ops ops mq lz Z rest (s.put o.dst v h2) s') → ee P dr ρ (.ops ops mq lz Z (i :: rest) s s')
 | l8 {ρ ops mq lz Z i o rest s v h' s'} : ops[i]? = some o → cv ops o s = true → pK P o s = some (v, h') → mq i = false → lz i = false → (∀ b ∈ Z, h'.o b.1 = s.h.o b.1) →
     ee P dr ρ (.ops ops mq lz Z rest (s.put o.dst v h') s') → ee P dr ρ (.ops ops mq lz Z (i :: rest) s s')
 | jY {ρ ops mq lz Z i o rest s v s' t x b off sz ro f k c} : ops[i]? = some o → cv ops o s = true → o.op = .load t x → s.ev x = .pointer (some ⟨b, off, none⟩) → s.h.o b = .cells sz ro f none k c → eg P o s = some (v, s.h) → lz (i + 65536) = false → fY v = true →
     ee P dr ρ (.ops ops mq lz ((b, false) :: Z) rest (s.put o.dst v s.h) s') → ee P dr ρ (.ops ops mq lz Z (i :: rest) s s')
 | iy {ρ ops mq lz Z i o rest s v s' t x b off sz ro f k c} : ops[i]? = some o → cv ops o s = true → o.op = .load t x → s.ev x = .pointer (some ⟨b, off, none⟩) → s.h.o b = .cells sz ro f none k c → eg P o s = some (v, s.h) → xO s.h.n v → (b, true) ∈ Z →
     ee P dr ρ (.ops ops mq lz Z rest (s.put o.dst v s.h) s') → ee P dr ρ (.ops ops mq lz Z (i :: rest) s s')
 | jH {ρ ops mq lz Z i o rest s f args v h' s'} : ops[i]? = some o → cv ops o s = true → gV P o s = some (f, args) → ee P dr ρ (.call f args s.h v h') →
     (mq i = true → Old s.h h') → lz i = false → (∀ b ∈ Z, dh (h'.o b.1) (s.h.o b.1)) → ee P dr ρ (.ops ops mq lz Z rest (s.put o.dst v h') s') → ee P dr ρ (.ops ops mq lz Z (i :: rest) s s')
 | iH {ρ ops mq lz Z i o rest s s'} : ops[i]? = some o → cv ops o s = false →
     ee P dr ρ (.ops ops mq lz Z rest (s.put o.dst undef s.h) s') → ee P dr ρ (.ops ops mq lz Z (i :: rest) s s')
 | call {ρ f fn c args h e s' vs} : P.funcs[f]? = some fn → fn.body = some c → ee P dr ρ.out (.code c (cz fn args h) e s') → (e = .normal ∨ e = .ret) →
     cr P fn s' = some vs → ee P dr ρ (.call f args h (eB vs) s'.h)
 | rangeFunc {ρ g ps assign body s gf lb v h'} : ρ.can → dZ g = true → s.ev g = .func (.func gf) #[] lb → (∀ t ∈ ps, t < s.m) → qJ P gf = true →
     ee P dr (ρ.add s.h.n ⟨s.m, s.t, ps, assign, body⟩) (.call gf (#[Yd s.h.n] ++ lb) s.h.fm v h') → ee P dr ρ (.code (.rangeFunc g ps assign body) s .normal { s with h := h' })
 | gQ {ρ ops mq lz Z i o rest s b args c s1 s2 s'} : ops[i]? = some o → cv ops o s = true → jq o s = some (b, args) → ρ.c b = some c → args.size = c.ps.size → (∀ t ∈ c.ps, t < c.m) →
     ee P dr (ρ.del b) (.code c.assign ⟨c.m, gH (c.ps.zip args).toList c.t, s.h⟩ .normal s1) → ee P dr (ρ.del b) (.code c.body s1 .normal s2) →
     (mq i = true → Old s.h s2.h) → lz i = false → (∀ b ∈ Z, s2.h.o b.1 = s.h.o b.1) → ee P dr ρ (.ops ops mq lz Z rest (s.put o.dst (.bool true) s2.h) s') → ee P dr ρ (.ops ops mq lz Z (i :: rest) s s')
 | direct {ρ f args h v h'} : lx P f args h v h' → ee P dr ρ (.call f args h v h')
 | pF {ρ a b s s1 s' g lb} : ee P dr ρ (.code a s .normal s1) → ee P dr ρ (.jK b s1 s' g lb) → ee P dr ρ (.jK (.seq a b) s s' g lb)
 | mh {ρ id ops rest s s2 e s' x ats g lb n o} : fG ops s.m = true → ops.size = n + 1 → ops[n]? = some o → o.op = .defer { callee := .value x, args := #[], argTypes := ats } → o.guard = none → o.dst = none → dZ x = true →
     ee P dr ρ (.ops ops (fun _ => false) (fun _ => false) [] (List.range n) s s2) → s2.ev x = .func (.func g) #[] lb → ee P dr ρ (.code rest s2 e s') → (e = .normal ∨ e = .ret) → ee P dr ρ (.jK (.seq (.region id ops false) rest) s s' g lb)
 | j8 {ρ f fn c args h s' g lb gn gc e4 s4 vs2 vs} : P.funcs[f]? = some fn → fn.body = some c → ee P dr ρ.out (.jK c (cz fn args h) s' g lb) → P.funcs[g]? = some gn → gn.body = some gc → gn.name ≠ "runtime.NumGoroutine" →
     ee P dr .late (.code gc (cz gn lb s'.h) e4 s4) → (e4 = .normal ∨ e4 = .ret) → cr P gn s4 = some vs2 → cr P fn { s' with h := s4.h } = some vs → ee P dr ρ (.call f args h (eB vs) s4.h)
end Go.Proofs.YthekokdpplobhaaGreat.Eng
