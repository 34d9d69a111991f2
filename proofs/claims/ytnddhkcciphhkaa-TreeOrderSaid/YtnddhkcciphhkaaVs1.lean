/- A value semantics for loaded programs: pure values, a small store of mutable arrays, and an interpreter of the program's own code over them. Definitions alone; that the machine follows them is proved in the texts behind this one. -/
import Derived.LoopN
import Derived.Orders
import Derived.Tactics
set_option linter.unusedVariables false
set_option linter.unusedSimpArgs false
namespace Go.Vs
open Go

/-- Pure values. `sl`, `cp`: a slice, a pointer into memory that is never written again. `msl`, `mp`: a slice, a pointer into array `id` of the store. `ex`: the capacity is the length. -/
inductive PV where
  | undef
  | skip
  | int (k : IntKind) (n : Int)
  | bool (b : Bool)
  | str (s : ByteArray)
  | raw (v : Value)
  | sl (rows : List (List PV)) (ex : Bool)
  | cp (row : List PV)
  | msl (id off len : Nat) (ex : Bool)
  | mp (id i off : Nat)
  | agg (cells : List PV)
  | tup (vs : List PV)
  | fn (f : FuncId) (first caps : List PV)
  deriving Inhabited

/-- An object of the store. grow: may it be appended to; then the cells of an element (none: nothing lies in memory yet). -/
inductive Obj where
  | arr (rows : List (List PV)) (grow : Option (Option Nat)) (fz : Bool)
  | gone
  deriving Inhabited

abbrev Store := List Obj
abbrev Env := List (Nat × PV)

def get : Env → Nat → PV
  | [], _ => .undef
  | (k, v) :: r, t => if k = t then v else get r t
def put : Env → Nat → PV → Env
  | [], t, v => [(t, v)]
  | (k, u) :: r, t, v => if k = t then (t, v) :: r else (k, u) :: put r t v
def putD (e : Env) (d : Option Nat) (v : PV) : Env := match d with | some t => put e t v | none => e
def trim (keep : List Nat) (e : Env) : Env := keep.map fun t => (t, get e t)

def PV.cells : PV → List PV
  | .agg cs => cs
  | v => [v]
/-- May stand in one cell of memory. -/
def flat : Value → Bool
  | .agg _ | .tuple _ => false
  | _ => true
def PV.cell : PV → Bool
  | .agg _ | .tup _ | .undef | .skip => false
  | .raw v => flat v
  | _ => true

mutual
/-- The arrays that a value mentions itself. -/
def PV.refs : PV → List Nat
  | .agg cs => refsL cs
  | .tup vs => refsL vs
  | .fn _ a b => refsL a ++ refsL b
  | .msl id _ _ _ => [id]
  | .mp id _ _ => [id]
  | _ => []
def refsL : List PV → List Nat
  | [] => []
  | v :: r => v.refs ++ refsL r
end
def rowsRefs (rows : List (List PV)) : List Nat := rows.flatMap refsL

/-! ### Types -/
inductive TD where
  | int (k : IntKind) | bool | str | slice (e : TypeId) | struct (fs : List (Nat × Nat × Bool)) | array (n : Nat) (e : TypeId) | ptr (e : TypeId) | other
structure TI where
  d : TD
  size : Nat
  bytes : Nat
  zero : Option (List PV)
  known : Bool := true

def ofCell : Value → PV
  | .int k n => .int k n
  | .bool b => .bool b
  | .string s => .str s
  | .slice none 0 0 => .sl [] true
  | .func (.func f) first caps => if first.size = 0 ∧ caps.size = 0 then .fn f [] [] else .raw (.func (.func f) first caps)
  | v => .raw v
def ofConst : Value → PV
  | .agg cs => if cs.toList.all flat then .agg (cs.toList.map ofCell) else .raw (.agg cs)
  | v => ofCell v

def isAggB (P : Program) (t : TypeId) : Bool :=
  match P.underlying t with
  | some (.struct _) | some (.array _ _) => true
  | _ => false
def sizeK (P : Program) (t : TypeId) : Nat := if (P.underlying t).isSome then P.cellsOf t else 0
def tyi (P : Program) (t : TypeId) : TI :=
  { d := match P.underlying t with
      | some (.int k) => .int k
      | some .bool => .bool
      | some .string => .str
      | some (.slice e) => .slice e
      | some (.struct fs) => .struct (fs.toList.map fun f => (f.offset, sizeK P f.type, isAggB P f.type))
      | some (.array n e) => .array n e
      | some (.pointer e) => .ptr e
      | _ => .other
    size := P.cellsOf t
    bytes := P.bytesOf t
    zero := ((P.info? t).bind (·.zero)).map fun v => (ofConst v).cells
    known := (P.underlying t).isSome }
def TI.isAgg (t : TI) : Bool :=
  match t.d with
  | .struct _ | .array _ _ => true
  | _ => false
def elemTy (ti : TI) : TypeId :=
  match ti.d with
  | .slice e => e
  | _ => 0
def isSlice (ti : TI) : Bool :=
  match ti.d with
  | .slice _ => true
  | _ => false

/-! ### Operations -/
def ev (e : Env) : Operand → PV
  | .tmp t => get e t
  | .const v => ofConst v
  | .global _ => .undef
  | .func f => .fn f [] []

def rowsOK (n : Nat) (rows : List (List PV)) : Bool := rows.all fun r => r.length == n
/-- The rows of an array, if it is one. -/
def rowsAt (S : Store) (id : Nat) : Option (List (List PV)) :=
  match S[id]? with
  | some (.arr rows _ _) => some rows
  | _ => none
def part (ti : TI) (row : List PV) : Option PV :=
  if ti.known = false then none else
  if ti.isAgg then (if ti.size ≤ row.length then some (.agg (row.take ti.size)) else none) else row.head?

def evLoad (ti : TI) (S : Store) : PV → Option PV
  | .cp row => part ti row
  | .mp id i off => (rowsAt S id).bind fun rows => if i < rows.length then part ti ((rows.getD i []).drop off) else none
  | _ => none

def evIndexAddr (sz : Nat) (S : Store) : PV → PV → Option PV
  | .sl rows _, .int _ n => if 0 ≤ n ∧ n < rows.length then (if (rows.getD n.toNat []).length = sz then some (.cp (rows.getD n.toNat [])) else none) else none
  | .msl id off len _, .int _ n => if 0 ≤ n ∧ n < len then (rowsAt S id).bind fun rows => (if rowsOK sz rows ∧ off + len ≤ rows.length then some (.mp id (off + n.toNat) 0) else none) else none
  | _, _ => none
def evFieldAddr (ti : TI) (f : Nat) : PV → Option PV
  | .cp row => match ti.d with
    | .struct fs => match fs[f]? with
      | some (o, n, _) => if n = 0 then none else some (.cp (row.drop o))
      | none => none
    | _ => none
  | .mp id i off => match ti.d with
    | .struct fs => match fs[f]? with
      | some (o, n, _) => if n = 0 then none else some (.mp id i (off + o))
      | none => none
    | _ => none
  | _ => none
def evField (ti : TI) (f : Nat) : PV → Option PV
  | .agg cs => match ti.d with
    | .struct fs => match fs[f]? with
      | some (o, n, g) => if n = 0 then none else if g then (if o + n ≤ cs.length then some (.agg ((cs.drop o).take n)) else none) else cs[o]?
      | none => none
    | _ => none
  | _ => none

/-- The bounds of a cut: nothing means from the start, to the end. -/
def bound (d : Nat) : Option PV → Option Nat
  | none => some d
  | some (.int _ n) => if 0 ≤ n then some n.toNat else none
  | some _ => none
def evSlice (ti : TI) (esz : Nat) (S : Store) (x : PV) (lo hi mx : Option PV) : Option PV :=
  match ti.d, x with
  | .str, .str s => match mx with
    | none => (bound 0 lo).bind fun l => (bound s.size hi).bind fun h => if l ≤ h ∧ h ≤ s.size then some (.str (s.extract l h)) else none
    | some _ => none
  | .slice _, .sl rows ex => (bound 0 lo).bind fun l => (bound rows.length hi).bind fun h => (bound h mx).bind fun m =>
      if l ≤ h ∧ h ≤ rows.length ∧ m = h ∧ rowsOK esz rows ∧ (mx.isNone || hi.isSome) then some (.sl ((rows.take h).drop l) (mx.isSome || (ex && hi.isNone))) else none
  | .slice _, .msl id off len ex => (rowsAt S id).bind fun rows => (bound 0 lo).bind fun l => (bound len hi).bind fun h => (bound h mx).bind fun m =>
      if l ≤ h ∧ h ≤ len ∧ m = h ∧ rowsOK esz rows ∧ off + len ≤ rows.length ∧ (mx.isNone || hi.isSome) then some (.msl id (off + l) (h - l) (mx.isSome || (ex && hi.isNone))) else none
  | _, _ => none

def evIndex (ti : TI) (esz : Nat) (eagg : Bool) : PV → PV → Option PV
  | .str s, .int _ n => match ti.d with
    | .str => if 0 ≤ n ∧ n < s.size then some (.int .u8 (s.data.toList.getD n.toNat 0).toNat) else none
    | _ => none
  | .agg cs, .int _ n => match ti.d with
    | .array len _ => if 0 ≤ n ∧ n < len then (if eagg then (if (n.toNat + 1) * esz ≤ cs.length then some (.agg ((cs.drop (n.toNat * esz)).take esz)) else none) else cs[n.toNat * esz]?) else none
    | _ => none
  | _, _ => none

def intOp (op : BinOp) (k : IntKind) (a b : Int) : Option PV :=
  match op with
  | .add => some (.int k (k.wrap (a + b)))
  | .sub => some (.int k (k.wrap (a - b)))
  | .mul => some (.int k (k.wrap (a * b)))
  | .quo => if b = 0 then none else some (.int k (k.wrap (a.tdiv b)))
  | .rem => if b = 0 then none else some (.int k (a.tmod b))
  | .and => some (.int k (k.wrap (BitVec.ofInt k.bits a &&& BitVec.ofInt k.bits b).toNat))
  | .or => some (.int k (k.wrap (BitVec.ofInt k.bits a ||| BitVec.ofInt k.bits b).toNat))
  | .xor => some (.int k (k.wrap (BitVec.ofInt k.bits a ^^^ BitVec.ofInt k.bits b).toNat))
  | .andNot => some (.int k (k.wrap (BitVec.ofInt k.bits a &&& ~~~(BitVec.ofInt k.bits b)).toNat))
  | .eql => some (.bool (decide (a = b)))
  | .neq => some (.bool (!decide (a = b)))
  | .lss => some (.bool (decide (a < b)))
  | .leq => some (.bool (decide (a ≤ b)))
  | .gtr => some (.bool (decide (a > b)))
  | .geq => some (.bool (decide (a ≥ b)))
  | _ => none
def shiftOp (op : BinOp) (k : IntKind) (a b : Int) : Option PV :=
  if b < 0 then none else
  match op with
  | .shl => some (.int k (k.wrap (a * 2 ^ min b.toNat k.bits)))
  | .shr => some (.int k (a.fdiv (2 ^ min b.toNat k.bits)))
  | _ => none
def strOp (op : BinOp) (x y : ByteArray) : Option PV :=
  match op with
  | .add => if x.size + y.size ≤ 9223372036854775807 then some (.str (x ++ y)) else none
  | .eql => some (.bool (x.toList == y.toList))
  | .neq => some (.bool (!(x.toList == y.toList)))
  | .lss => some (.bool (Op.bytesLess x.toList y.toList))
  | .leq => some (.bool (Op.bytesLess x.toList y.toList || x.toList == y.toList))
  | .gtr => some (.bool (!(Op.bytesLess x.toList y.toList || x.toList == y.toList)))
  | .geq => some (.bool (!(Op.bytesLess x.toList y.toList)))
  | _ => none
def evBin (op : BinOp) (ti : TI) (x y : PV) : Option PV :=
  match x, y with
  | .int k a, .int k' b => match op with
    | .shl | .shr => shiftOp op k a b
    | _ => if k = k' then intOp op k a b else none
  | .bool a, .bool b => match ti.d with
    | .bool => (match op with
      | .eql => some (.bool (a == b))
      | .neq => some (.bool (!(a == b)))
      | _ => none)
    | _ => none
  | .str a, .str b => strOp op a b
  | _, _ => none
def evUn (op : UnOp) : PV → Option PV
  | .int k n => match op with
    | .neg => some (.int k (k.wrap (0 - n)))
    | .xor => some (.int k (k.wrap (BitVec.ofInt k.bits (if k.signed then -1 else k.max) ^^^ BitVec.ofInt k.bits n).toNat))
    | _ => none
  | .bool b => match op with
    | .not => some (.bool (!b))
    | _ => none
  | _ => none
def evConvert (src dst : TI) : PV → Option PV
  | .int _ n => match dst.d with
    | .int k => some (.int k (k.wrap n))
    | _ => none
  | .str s => match dst.d with
    | .str => some (.str s)
    | _ => none
  | _ => none
def evLen (ti : TI) : PV → Option PV
  | .str s => match ti.d with | .str => some (.int .i64 s.size) | _ => none
  | .sl rows _ => match ti.d with | .slice _ => some (.int .i64 rows.length) | _ => none
  | .msl _ _ len _ => match ti.d with | .slice _ => some (.int .i64 len) | _ => none
  | _ => none

def noUndef : PV → Bool
  | .undef => false
  | _ => true
/-- What an operation that reads at most comes to: a value, a new array (its number is `nid`), arrays to be frozen. -/
structure Out where
  v : PV
  new : Option (List (List PV) × Option (Option Nat)) := none
  fz : List Nat := []

def rowsIn (S : Store) : PV → Option (List (List PV))
  | .sl rows _ => some rows
  | .msl id off len _ => (rowsAt S id).bind fun rows => if off + len ≤ rows.length then some ((rows.drop off).take len) else none
  | _ => none

def zeroOK (ti : TI) : Bool :=
  match ti.zero with
  | some z => z.length == ti.size && z.all PV.cell
  | none => false
def mapO {α β : Type} (f : α → Option β) : List α → Option (List β)
  | [] => some []
  | a :: r => (f a).bind fun b => (mapO f r).map fun l => b :: l

/-! ### Freezing: a value whose memory is not written any more, by what it holds -/
def fzCell (S : Store) : Nat → PV → Option PV
  | 0, _ => none
  | d + 1, v =>
    match v with
    | .int .. | .bool _ | .str _ | .cp _ => some v
    | .raw u => if flat u then some (.raw u) else none
    | .sl rows _ => some (.sl rows false)
    | .msl id off len _ => (rowsIn S (.msl id off len false)).bind fun rows => (mapO (mapO (fzCell S d)) rows).map fun rows => .sl rows false
    | .mp id i off => (rowsAt S id).bind fun rows => if i < rows.length then (mapO (fzCell S d) ((rows.getD i []).drop off)).map .cp else none
    | .fn f [] [] => some (.fn f [] [])
    | _ => none
def fzPV1 (S : Store) : PV → Option PV
  | .agg cs => (mapO (fzCell S 8) cs).map .agg
  | v => fzCell S 8 v
def fzPV (S : Store) : PV → Option PV
  | .tup vs => (mapO (fzPV1 S) vs).map .tup
  | v => fzPV1 S v
/-- The arrays that are reached from some. -/
def reach (S : Store) : Nat → List Nat → List Nat
  | 0, ids => ids
  | d + 1, ids => ids ++ reach S d (ids.flatMap fun id => match rowsAt S id with | some rows => rowsRefs rows | none => [])
def freeze1 (S : Store) (id : Nat) : Store :=
  match S[id]? with
  | some (.arr rows g _) => S.set id (.arr rows g true)
  | _ => S
def freezeAll (S : Store) (ids : List Nat) : Store := ids.foldl freeze1 S

def place (S : Store) : Option (List (List PV) × Option (Option Nat)) → Store
  | some (rows, g) => S ++ [.arr rows g false]
  | none => S

/-! ### Operations that read at most -/
/-- A call of a function over frozen values. -/
abbrev CallP := FuncId → List PV → Option PV
/-- A call of a function over the store. -/
abbrev CallR := FuncId → List PV → Store → Option (PV × Store)

def boxed (S : Store) (nid : Nat) (n : Nat) (v : PV) : Option Out :=
  if v.cells.length = n ∧ v.cells.all PV.cell then some { v := .mp nid 0 0, new := some ([v.cells], none) } else none

/-- Is the capacity known to be the length? -/
def exact : PV → Bool
  | .sl _ ex => ex
  | .msl _ _ _ ex => ex
  | _ => false
def evAppendNew (ti esz : Nat) (S : Store) (nid : Nat) (x y : PV) : Option Out :=
  if exact x = true then (rowsIn S x).bind fun rows => (rowsIn S y).bind fun new =>
      if rowsOK esz rows ∧ rowsOK esz new ∧ (rows.length + new.length) * ti ≤ 140737488355328 ∧ rows.length + new.length ≤ 9223372036854775807 then
        (if new.length = 0 then (if rows.length = 0 then some { v := .msl nid 0 0 false, new := some ([], some (some esz)) } else some { v := x })
         else some { v := .msl nid 0 (rows.length + new.length) false, new := some (rows ++ new, some (some esz)) })
      else none
  else none

def fillAll (fs : List (Nat × Nat × Bool)) (ρ : Operand → PV) : List PV → List (Nat × Operand) → Option (List PV)
  | cs, [] => some cs
  | cs, (i, x) :: r => match fs[i]? with
    | some (o, n, _) => if (ρ x).cells.length = n ∧ (ρ x).cells.all PV.cell ∧ o + n ≤ cs.length then fillAll fs ρ (cs.take o ++ (ρ x).cells ++ cs.drop (o + n)) r else none
    | none => none

def ev1 (P : Program) (cp : CallP) (o : Oper) (e : Env) (S : Store) (nid : Nat) : Option Out :=
  match o.op with
  | .move x | .assign x => some { v := ev e x }
  | .pick c a b => match ev e c with
    | .bool t => some { v := if t then ev e a else ev e b }
    | _ => none
  | .alloc t => (tyi P t).zero.bind fun z => if z.all PV.cell then some { v := .mp nid 0 0, new := some ([z], none) } else none
  | .box t x => boxed S nid (tyi P t).size (ev e x)
  | .build t parts => match (tyi P t).d with
    | .struct fs => (tyi P t).zero.bind fun z => if z.all PV.cell ∧ (fs.all fun x => decide (x.2.1 ≠ 0)) then (fillAll fs (ev e) z parts.toList).map fun cs => { v := .agg cs } else none
    | _ => none
  | .buildSlice t len parts => match (tyi P t).d with
    | .slice el =>
      let rows := parts.toList.map fun (_, x) => (ev e x).cells
      if parts.toList.map (·.1) = List.range len ∧ rowsOK (tyi P el).size rows ∧ (rows.all fun r => r.all PV.cell) ∧ len * (tyi P el).size ≤ 16777216 ∧ 0 < (tyi P el).size ∧ (tyi P el).zero.isSome then
        some { v := .msl nid 0 len true, new := some (rows, some (some (tyi P el).size)) } else none
    | _ => none
  | .load t a => (evLoad (tyi P t) S (ev e a)).map fun v => { v }
  | .nilCheck x => match ev e x with
    | .mp a b c => some { v := .mp a b c }
    | .cp r => some { v := .cp r }
    | .fn f a b => some { v := .fn f a b }
    | _ => none
  | .binOp op t x y _ => (evBin op (tyi P t) (ev e x) (ev e y)).map fun v => { v }
  | .unOp op _ x => (evUn op (ev e x)).map fun v => { v }
  | .convert s d x => if (tyi P s).known then (evConvert (tyi P s) (tyi P d) (ev e x)).map fun v => { v } else none
  | .makeFunc (.func f) first caps => some { v := .fn f (first.toList.map (ev e)) (caps.toList.map (ev e)) }
  | .makeSlice t l c => match (tyi P t).d, ev e l, ev e c with
    | .slice el, .int _ n, .int _ m => (tyi P el).zero.bind fun z =>
      if 0 ≤ n ∧ n ≤ m ∧ (tyi P el).bytes * m ≤ 281474976710656 ∧ m ≤ 9223372036854775807 ∧ z.length = (tyi P el).size ∧ z.all PV.cell then
        some { v := .msl nid 0 n.toNat (decide (n = m)), new := some (List.replicate n.toNat z, some (some (tyi P el).size)) } else none
    | _, _, _ => none
  | .slice t x lo hi mx => if isSlice (tyi P t) = true ∧ (tyi P (elemTy (tyi P t))).known = false then none else (evSlice (tyi P t) (tyi P (elemTy (tyi P t))).size S (ev e x) (lo.map (ev e)) (hi.map (ev e)) (mx.map (ev e))).map fun v => { v }
  | .fieldAddr t x f => (evFieldAddr (tyi P t) f (ev e x)).map fun v => { v }
  | .field t x f => (evField (tyi P t) f (ev e x)).map fun v => { v }
  | .indexAddr t x i => if isSlice (tyi P t) = true ∧ (tyi P (elemTy (tyi P t))).known = true then (evIndexAddr (tyi P (elemTy (tyi P t))).size S (ev e x) (ev e i)).map fun v => { v } else none
  | .index t x i => match (tyi P t).d with
    | .array n el => if (tyi P el).known then (evIndex { d := .array n el, size := (tyi P t).size, bytes := 0, zero := none } (tyi P el).size (tyi P el).isAgg (ev e x) (ev e i)).map fun v => { v } else none
    | .str => (evIndex { d := .str, size := 0, bytes := 0, zero := none } 0 false (ev e x) (ev e i)).map fun v => { v }
    | _ => none
  | .extract x i => match ev e x with
    | .tup vs => (vs[i]?).map fun v => { v }
    | _ => none
  | .call c => match c.callee with
    | .builtin .len => match c.argTypes[0]?, c.args[0]? with
      | some t, some x => (evLen (tyi P t) (ev e x)).map fun v => { v }
      | _, _ => none
    | .builtin .max => match c.args.toList.map (ev e) with
      | [.int k a, .int _ b] => some { v := .int k (if b > a then b else a) }
      | _ => none
    | .builtin .min => match c.args.toList.map (ev e) with
      | [.int k a, .int _ b] => some { v := .int k (if b < a then b else a) }
      | _ => none
    | .builtin .append => match c.argTypes[0]?, c.argTypes[1]?, c.args.toList with
      | some t, some u, [x, y] => match (tyi P t).d, (tyi P u).d with
        | .slice el, .slice _ => if zeroOK (tyi P el) then evAppendNew (tyi P el).bytes (tyi P el).size S nid (ev e x) (ev e y) else none
        | _, _ => none
      | _, _, _ => none
    | .value f => match ev e f with
      | .fn f first caps => if (reach S 8 ((first ++ c.args.toList.map (ev e) ++ caps).flatMap PV.refs)).all (fun i => decide (i < S.length)) then
          (mapO (fzPV S) (first ++ c.args.toList.map (ev e) ++ caps)).bind fun args => (cp f args).map fun v =>
          { v, fz := reach S 8 ((first ++ c.args.toList.map (ev e) ++ caps).flatMap PV.refs) } else none
      | _ => none
    | _ => none
  | _ => none
/-! ### Operations that write, and calls over the store -/
/-- Of a loop: slots live at its head, slots live behind it, slots that own at its head, slots frozen at its head. -/
structure LoopHint where
  live : List Nat
  after : List Nat
  own : List Nat := []
  fz : List Nat := []
structure Hint where
  keep : List Nat
  loops : List (Nat × LoopHint) := []
structure Hints where
  refs : FuncId → Bool
  of : FuncId → Hint
structure Ctx where
  P : Program
  H : Hints
  cp : CallP
  cr : CallR
  base : Nat
  h : Hint

structure Eff where
  v : PV
  S : Store
  kill : List Nat := []

def isEff (H : Hints) (o : Oper) (e : Env) : Bool :=
  match o.op with
  | .store .. => true
  | .call c => match c.callee with
    | .builtin .append => match c.args[0]? with | some x => !exact (ev e x) | none => true
    | .builtin .copy => true
    | .value (.func f) => H.refs f
    | .value _ => true
    | _ => false
  | _ => false

def splice (row : List PV) (off : Nat) (cs : List PV) : List PV :=
  if off = 0 ∧ cs.length = row.length then cs else row.take off ++ cs ++ row.drop (off + cs.length)
def evStore (n : Nat) (S : Store) (a v : PV) : Option Store :=
  match a with
  | .mp id i off => match S[id]? with
    | some (.arr rows g false) =>
      if i < rows.length ∧ off + n ≤ (rows.getD i []).length ∧ v.cells.length = n ∧ v.cells.all PV.cell then some (S.set id (.arr (rows.set i (splice (rows.getD i []) off v.cells)) g false)) else none
    | _ => none
  | _ => none
/-- A value that mentions an array of these is not known any more. -/
def kill1 (ids : List Nat) (v : PV) : PV := if v.refs.any fun i => ids.contains i then .undef else v
def killE (ids : List Nat) (e : Env) : Env := if ids = [] then e else e.map fun (t, v) => (t, kill1 ids v)
def killRows (ids : List Nat) (rows : List (List PV)) : List (List PV) := if (rowsRefs rows).any fun i => ids.contains i then rows.map fun r => r.map (kill1 ids) else rows
def killObj (ids : List Nat) : Obj → Obj
  | .arr rows g f => .arr (killRows ids rows) g f
  | .gone => .gone
def evAppend1 (base bytes esz : Nat) (S : Store) (x y : PV) : Option Eff :=
  match x with
  | .msl id 0 len _ => match S[id]? with
    | some (.arr rows (some g) false) => (rowsIn S y).bind fun new =>
      if base ≤ id ∧ len = rows.length ∧ (g = none ∨ g = some esz) ∧ rowsOK esz rows ∧ rowsOK esz new ∧ (rows.length + new.length) * bytes ≤ 140737488355328 ∧ rows.length + new.length ≤ 9223372036854775807 ∧ ((rowsRefs rows ++ rowsRefs new).contains id) = false then
        some { v := .msl id 0 (rows.length + new.length) false, S := (S.map (killObj [id])).set id (.arr (rows ++ new) (some (some esz)) false), kill := [id] } else none
    | _ => none
  | _ => none
/-- An array of the caller's: it goes, a new one takes its place. -/
def renewed (id : Nat) (S : Store) (r : Eff) : Eff :=
  { v := (match r.v with | .msl _ o l ex => .msl S.length o l ex | v => v), S := (r.S.set id .gone) ++ [r.S.getD id .gone], kill := r.kill }
def evAppend (base bytes esz : Nat) (S : Store) (x y : PV) : Option Eff :=
  match x with
  | .msl id _ _ _ => if base ≤ id then evAppend1 base bytes esz S x y else (evAppend1 0 bytes esz S x y).map (renewed id S)
  | _ => none
def evCopy (esz : Nat) (S : Store) (x y : PV) : Option Eff :=
  match x with
  | .msl id off len _ => match S[id]? with
    | some (.arr rows g false) => (rowsIn S y).bind fun src =>
      if off + len ≤ rows.length ∧ rowsOK esz rows ∧ rowsOK esz src then
        some { v := .int .i64 (min src.length len : Nat), S := S.set id (.arr (rows.take off ++ src.take len ++ rows.drop (off + min src.length len)) g false) } else none
    | _ => none
  | _ => none
def ev2 (C : Ctx) (o : Oper) (e : Env) (S : Store) : Option Eff :=
  match o.op with
  | .store t a v => if (tyi C.P t).known then (evStore (tyi C.P t).size S (ev e a) (ev e v)).map fun S => { v := .skip, S } else none
  | .call c => match c.callee with
    | .builtin .append => match c.argTypes[0]?, c.argTypes[1]?, c.args.toList with
      | some t, some u, [x, y] => match (tyi C.P t).d, (tyi C.P u).d with
        | .slice el, .slice _ => if zeroOK (tyi C.P el) then evAppend C.base (tyi C.P el).bytes (tyi C.P el).size S (ev e x) (ev e y) else none
        | _, _ => none
      | _, _, _ => none
    | .builtin .copy => match c.argTypes[0]?, c.argTypes[1]?, c.args.toList with
      | some t, some u, [x, y] => match (tyi C.P t).d, (tyi C.P u).d with
        | .slice el, .slice _ => if (tyi C.P el).known then evCopy (tyi C.P el).size S (ev e x) (ev e y) else none
        | _, _ => none
      | _, _, _ => none
    | .value f => match ev e f with
      | .fn f first caps =>
        let as := first ++ c.args.toList.map (ev e) ++ caps
        if C.H.refs f then (C.cr f as S).bind fun (v, S') => if S.length ≤ S'.length then some { v, S := S' } else none
        else (mapO (fzPV S) as).bind fun args => (C.cp f args).map fun v => { v, S := freezeAll S (reach S 8 (as.flatMap PV.refs)) }
      | _ => none
    | _ => none
  | _ => none

/-! ### Regions -/
def wantedV (ops : Array Oper) (e : Env) (o : Oper) : Option Bool :=
  match o.guard with
  | none => some true
  | some (j, want) => match (ops[j]?).bind (·.dst) with
    | some t => match get e t with
      | .bool b => some (b == want)
      | .skip => some false
      | _ => none
    | none => some false
/-- One operation in its turn. -/
def stepOp (C : Ctx) (ops : Array Oper) (o : Oper) (e : Env) (S : Store) : Option (Env × Store) :=
  (wantedV ops e o).bind fun w =>
    if w then
      (if isEff C.H o e then (ev2 C o e S).map fun r => (putD (killE r.kill e) o.dst r.v, r.S)
       else (ev1 C.P C.cp o e S S.length).map fun r => (putD e o.dst r.v, place (freezeAll S r.fz) r.new))
    else some (putD e o.dst .skip, S)
def runOps (C : Ctx) (ops : Array Oper) : List Oper → Env → Store → Option (Env × Store)
  | [], e, S => some (e, S)
  | o :: r, e, S => (stepOp C ops o e S).bind fun (e, S) => runOps C ops r e S
/-- 0: of the slots alone · 1: reads memory · 2: makes an array · 3: stores · 4: anything. -/
def kind (H : Hints) (o : Oper) (e : Env) : Nat :=
  if isEff H o e then (match o.op with | .store .. => 3 | _ => 4) else
  match o.op with
  | .move _ | .assign _ | .pick .. | .binOp .. | .unOp .. | .convert .. | .extract .. | .field .. | .index .. | .makeFunc .. | .build .. | .fieldAddr .. | .nilCheck _ => 0
  | .alloc _ | .box .. | .buildSlice .. | .makeSlice .. => 2
  | _ => 1
/-- May the two come in either order? -/
def swapOK (ops : Array Oper) (kp ko : Nat) (p o : Oper) : Bool :=
  Oper.apart ops p o && kp != 4 && ko != 4 && !(kp == 3 && (ko == 1 || ko == 3)) && !(ko == 3 && kp == 1)
/-- What may come in either order gives the same in either order. -/
def drawOK (ops : Array Oper) (k : Nat → Nat) : Bool :=
  let b := Region.before ops
  (List.range ops.size).all fun j => match ops[j]? with
    | none => true
    | some o => (o.after.all fun e => !Region.binds .any e || decide (e.on < j)) &&
      (List.range j).all fun i => match ops[i]? with
        | none => true
        | some p => (b.getD j 0).testBit i || swapOK ops (k i) (k j) p o
/-- The kinds, where no slot need be known. -/
def kindS (H : Hints) (ops : Array Oper) (j : Nat) : Nat :=
  match ops[j]? with
  | some o => (match o.op with
    | .call c => (match c.callee with
      | .builtin .append => (match c.args[0]? with | some (Operand.const _) => kind H o [] | _ => 4)
      | _ => kind H o [])
    | _ => kind H o [])
  | none => 0
def kindsOf (C : Ctx) (ops : Array Oper) : List Oper → Env → Store → List Nat
  | [], _, _ => []
  | o :: r, e, S => kind C.H o e :: (match stepOp C ops o e S with | some (e, S) => kindsOf C ops r e S | none => [])
def runRegion (C : Ctx) (ops : Array Oper) (draw : Bool) (e : Env) (S : Store) : Option (Env × Store) :=
  if draw then (if drawOK ops (kindS C.H ops) || drawOK ops (fun j => (kindsOf C ops ops.toList e S).getD j 0) then runOps C ops ops.toList e S else none) else runOps C ops ops.toList e S

/-! ### Code -/
inductive X where
  | normal | exit (id : Nat) | ret
  deriving DecidableEq

def condV {α : Type} (v : PV) (x y : Option α) : Option α :=
  match v with
  | .bool t => if t then x else y
  | _ => none
def keepOnly (live : List Nat) (e : Env) : Env := e.map fun (t, v) => if live.contains t then (t, v) else (t, .undef)
/-- What lies behind number n falls away, if nothing that stays leads there. -/
def gc (n : Nat) (e : Env) (S : Store) : Store :=
  if (e.all fun (_, v) => v.refs.all fun i => decide (i < n)) ∧ ((S.take n).all fun | .arr rows _ _ => (rowsRefs rows).all fun i => decide (i < n) | .gone => true) then S.take n else S
/-- A slot that holds an empty slice without capacity comes to own an array. -/
def own1 (e : Env) (S : Store) (t : Nat) : Env × Store :=
  match get e t with
  | .sl [] true => (put e t (.msl S.length 0 0 false), S ++ [.arr [] (some none) false])
  | .msl id off len true => (put e t (.msl id off len false), S)
  | _ => (e, S)
def ownAll (ts : List Nat) (e : Env) (S : Store) : Env × Store := ts.foldl (fun (e, S) t => own1 e S t) (e, S)
def fzSlot (e : Env) (S : Store) (t : Nat) : Option (Env × Store) :=
  (fzPV S (get e t)).map fun v => (put e t v, freezeAll S (reach S 8 (get e t).refs))
def fzSlots : List Nat → Env → Store → Option (Env × Store)
  | [], e, S => some (e, S)
  | t :: r, e, S => (fzSlot e S t).bind fun (e, S) => fzSlots r e S

/-- At a loop's head, each time. -/
def normG (live fz : List Nat) (n : Nat) (e : Env) (S : Store) : Option (Env × Store) := (fzSlots fz (keepOnly live e) S).map fun r => (r.1, gc n r.1 r.2)
/-- Behind a loop. -/
def afterG (b n : Nat) (after : List Nat) (q : X × Env × Store) : X × Env × Store :=
  if q.1 = .exit b then (q.1, keepOnly after q.2.1, gc n (keepOnly after q.2.1) q.2.2) else q
def loopN (body : Env → Store → Option (X × Env × Store)) (norm : Env → Store → Option (Env × Store)) : Nat → Env → Store → Option (X × Env × Store)
  | 0, _, _ => none
  | n + 1, e, S => (body e S).bind fun (x, e, S) =>
    match x with
    | .normal => (norm e S).bind fun (e, S) => loopN body norm n e S
    | x => some (x, e, S)

def exec (C : Ctx) (k : Nat) : Nat → Code → Env → Store → Option (X × Env × Store)
  | _, .skip, e, S => some (.normal, e, S)
  | _, .region _ ops draw, e, S => (runRegion C ops draw e S).map fun (e, S) => (.normal, trim C.h.keep e, S)
  | b, .seq x y, e, S => (exec C k b x e S).bind fun (r, e, S) =>
    match r with
    | .normal => exec C k b y e S
    | r => some (r, e, S)
  | b, .cond c x y, e, S => condV (ev e c) (exec C k b x e S) (exec C k b y e S)
  | _, .block id body, e, S => (exec C k id body e S).map fun (r, e, S) => (if r = .exit id then .normal else r, e, S)
  | b, .loop body, e, S =>
    (C.h.loops.lookup b).bind fun h =>
    (fzSlots h.fz (ownAll h.own (keepOnly h.live e) S).1 (ownAll h.own (keepOnly h.live e) S).2).bind fun r =>
    (loopN (exec C k b body) (normG h.live h.fz r.2.length) k r.1 r.2).map (afterG b r.2.length h.after)
  | _, .exit id, e, S => some (.exit id, e, S)
  | _, .ret, e, S => some (.ret, e, S)
  | _, _, _, _ => none

/-! ### The same, with what goes on behind -/
def execK {R : Type} (C : Ctx) (k : Nat) (b : Nat) (c : Code) (K : X → Env → Store → Option R) (e : Env) (S : Store) : Option R :=
  (exec C k b c e S).bind fun r => K r.1 r.2.1 r.2.2
def loopK {R : Type} (body : Env → Store → Option (X × Env × Store)) (norm : Env → Store → Option (Env × Store)) (K : X → Env → Store → Option R) (n : Nat) (e : Env) (S : Store) : Option R :=
  (loopN body norm n e S).bind fun r => K r.1 r.2.1 r.2.2

/-! ### Calls -/
/-- Every operation has its slot. -/
def codeOK (nt : Nat) : Code → Bool
  | .region _ ops _ => ops.all fun o => match o.dst with | some d => decide (d < nt) | none => true
  | .seq x y => codeOK nt x && codeOK nt y
  | .cond _ x y => codeOK nt x && codeOK nt y
  | .block _ x => codeOK nt x
  | .loop x => codeOK nt x
  | _ => true
def evResult (P : Program) (e : Env) (S : Store) : ResultVar → Option PV
  | .tmp t => some (get e t)
  | .cell a t => evLoad (tyi P t) S (get e a)
def evResults (P : Program) (fn : Func) (e : Env) (S : Store) : Option PV :=
  (mapO (evResult P e S) fn.results.toList).map fun vs => match vs with | [v] => v | vs => .tup vs
def callF (P : Program) (H : Hints) : Nat → FuncId → List PV → Store → Option (PV × Store)
  | 0, _, _, _ => none
  | k + 1, f, args, S =>
    match P.funcs[f]? with
    | some fn => match fn.body with
      | some c =>
        if args.length ≤ fn.ntmps ∧ fn.name ≠ "runtime.NumGoroutine" ∧ codeOK fn.ntmps c = true then
          (exec { P, H, cp := fun g as => (callF P H k g as []).bind fun (r, S) => fzPV S r, cr := callF P H k, base := S.length, h := H.of f } k 0 c ((List.range args.length).zip args) S).bind fun (r, e, S) =>
            match r with
            | .exit _ => none
            | _ => (evResults P fn e S).map fun v => (v, S)
        else none
      | none => none
    | none => none
def callP (P : Program) (H : Hints) (k : Nat) (f : FuncId) (args : List PV) : Option PV :=
  (callF P H k f args []).bind fun (r, S) => fzPV S r
end Go.Vs
