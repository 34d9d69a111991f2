import Derived.LoopN
import Derived.Orders
import Derived.Tactics
import Derived.Laws.CopyRow
import Derived.Laws.Cells
import Derived.Laws.Slices
section
set_option linter.unusedVariables false
set_option linter.unusedSimpArgs false
namespace Go.Vs
open Go
inductive PV where
  | undef
  | skip
  | int (k : IntKind) (n : Int)
  | bool (b : Bool)
  | str (s : ByteArray)
  | raw (v : Value)
  | sl (rows : List (List PV)) (ex : Bool)
  | cp (row : List PV)
  | msl (id off len : Nat) (ex : Bool)
  | mp (id i off : Nat)
  | agg (cells : List PV)
  | tup (vs : List PV)
  | fn (f : FuncId) (first caps : List PV)
  deriving Inhabited
inductive Obj where
  | arr (rows : List (List PV)) (grow : Option (Option Nat)) (fz : Bool)
  | gone
  deriving Inhabited
abbrev Store := List Obj
abbrev Env := List (Nat × PV)
def get : Env → Nat → PV
  | [], _ => .undef
  | (k, v) :: r, t => if k = t then v else get r t
def put : Env → Nat → PV → Env
  | [], t, v => [(t, v)]
  | (k, u) :: r, t, v => if k = t then (t, v) :: r else (k, u) :: put r t v
def putD (e : Env) (d : Option Nat) (v : PV) : Env := match d with | some t => put e t v | none => e
def trim (keep : List Nat) (e : Env) : Env := keep.map fun t => (t, get e t)
def PV.cells : PV → List PV
  | .agg cs => cs
  | v => [v]
def flat : Value → Bool
  | .agg _ | .tuple _ => false
  | _ => true
def PV.cell : PV → Bool
  | .agg _ | .tup _ | .undef | .skip => false
  | .raw v => flat v
  | _ => true
mutual
def PV.refs : PV → List Nat
  | .agg cs => refsL cs
  | .tup vs => refsL vs
  | .fn _ a b => refsL a ++ refsL b
  | .msl id _ _ _ => [id]
  | .mp id _ _ => [id]
  | _ => []
def refsL : List PV → List Nat
  | [] => []
  | v :: r => v.refs ++ refsL r
end
def rowsRefs (rows : List (List PV)) : List Nat := rows.flatMap refsL
inductive TD where
  | int (k : IntKind) | bool | str | slice (e : TypeId) | struct (fs : List (Nat × Nat × Bool)) | array (n : Nat) (e : TypeId) | ptr (e : TypeId) | other
structure TI where
  d : TD
  size : Nat
  bytes : Nat
  zero : Option (List PV)
  known : Bool := true
def ofCell : Value → PV
  | .int k n => .int k n
  | .bool b => .bool b
  | .string s => .str s
  | .slice none 0 0 => .sl [] true
  | .func (.func f) first caps => if first.size = 0 ∧ caps.size = 0 then .fn f [] [] else .raw (.func (.func f) first caps)
  | v => .raw v
def ofConst : Value → PV
  | .agg cs => if cs.toList.all flat then .agg (cs.toList.map ofCell) else .raw (.agg cs)
  | v => ofCell v
def isAggB (P : Program) (t : TypeId) : Bool :=
  match P.underlying t with
  | some (.struct _) | some (.array _ _) => true
  | _ => false
def sizeK (P : Program) (t : TypeId) : Nat := if (P.underlying t).isSome then P.cellsOf t else 0
def tyi (P : Program) (t : TypeId) : TI :=
  { d := match P.underlying t with
      | some (.int k) => .int k
      | some .bool => .bool
      | some .string => .str
      | some (.slice e) => .slice e
      | some (.struct fs) => .struct (fs.toList.map fun f => (f.offset, sizeK P f.type, isAggB P f.type))
      | some (.array n e) => .array n e
      | some (.pointer e) => .ptr e
      | _ => .other
    size := P.cellsOf t
    bytes := P.bytesOf t
    zero := ((P.info? t).bind (·.zero)).map fun v => (ofConst v).cells
    known := (P.underlying t).isSome }
def TI.isAgg (t : TI) : Bool :=
  match t.d with
  | .struct _ | .array _ _ => true
  | _ => false
def elemTy (ti : TI) : TypeId :=
  match ti.d with
  | .slice e => e
  | _ => 0
def isSlice (ti : TI) : Bool :=
  match ti.d with
  | .slice _ => true
  | _ => false
def ev (e : Env) : Operand → PV
  | .tmp t => get e t
  | .const v => ofConst v
  | .global _ => .undef
  | .func f => .fn f [] []
def rowsOK (n : Nat) (rows : List (List PV)) : Bool := rows.all fun r => r.length == n
def rowsAt (S : Store) (id : Nat) : Option (List (List PV)) :=
  match S[id]? with
  | some (.arr rows _ _) => some rows
  | _ => none
def part (ti : TI) (row : List PV) : Option PV :=
  if ti.known = false then none else
  if ti.isAgg then (if ti.size ≤ row.length then some (.agg (row.take ti.size)) else none) else row.head?
def evLoad (ti : TI) (S : Store) : PV → Option PV
  | .cp row => part ti row
  | .mp id i off => (rowsAt S id).bind fun rows => if i < rows.length then part ti ((rows.getD i []).drop off) else none
  | _ => none
def evIndexAddr (sz : Nat) (S : Store) : PV → PV → Option PV
  | .sl rows _, .int _ n => if 0 ≤ n ∧ n < rows.length then (if (rows.getD n.toNat []).length = sz then some (.cp (rows.getD n.toNat [])) else none) else none
  | .msl id off len _, .int _ n => if 0 ≤ n ∧ n < len then (rowsAt S id).bind fun rows => (if rowsOK sz rows ∧ off + len ≤ rows.length then some (.mp id (off + n.toNat) 0) else none) else none
  | _, _ => none
def evFieldAddr (ti : TI) (f : Nat) : PV → Option PV
  | .cp row => match ti.d with
    | .struct fs => match fs[f]? with
      | some (o, n, _) => if n = 0 then none else some (.cp (row.drop o))
      | none => none
    | _ => none
  | .mp id i off => match ti.d with
    | .struct fs => match fs[f]? with
      | some (o, n, _) => if n = 0 then none else some (.mp id i (off + o))
      | none => none
    | _ => none
  | _ => none
def evField (ti : TI) (f : Nat) : PV → Option PV
  | .agg cs => match ti.d with
    | .struct fs => match fs[f]? with
      | some (o, n, g) => if n = 0 then none else if g then (if o + n ≤ cs.length then some (.agg ((cs.drop o).take n)) else none) else cs[o]?
      | none => none
    | _ => none
  | _ => none
def bound (d : Nat) : Option PV → Option Nat
  | none => some d
  | some (.int _ n) => if 0 ≤ n then some n.toNat else none
  | some _ => none
def evSlice (ti : TI) (esz : Nat) (S : Store) (x : PV) (lo hi mx : Option PV) : Option PV :=
  match ti.d, x with
  | .str, .str s => match mx with
    | none => (bound 0 lo).bind fun l => (bound s.size hi).bind fun h => if l ≤ h ∧ h ≤ s.size then some (.str (s.extract l h)) else none
    | some _ => none
  | .slice _, .sl rows ex => (bound 0 lo).bind fun l => (bound rows.length hi).bind fun h => (bound h mx).bind fun m =>
      if l ≤ h ∧ h ≤ rows.length ∧ m = h ∧ rowsOK esz rows ∧ (mx.isNone || hi.isSome) then some (.sl ((rows.take h).drop l) (mx.isSome || (ex && hi.isNone))) else none
  | .slice _, .msl id off len ex => (rowsAt S id).bind fun rows => (bound 0 lo).bind fun l => (bound len hi).bind fun h => (bound h mx).bind fun m =>
      if l ≤ h ∧ h ≤ len ∧ m = h ∧ rowsOK esz rows ∧ off + len ≤ rows.length ∧ (mx.isNone || hi.isSome) then some (.msl id (off + l) (h - l) (mx.isSome || (ex && hi.isNone))) else none
  | _, _ => none
def evIndex (ti : TI) (esz : Nat) (eagg : Bool) : PV → PV → Option PV
  | .str s, .int _ n => match ti.d with
    | .str => if 0 ≤ n ∧ n < s.size then some (.int .u8 (s.data.toList.getD n.toNat 0).toNat) else none
    | _ => none
  | .agg cs, .int _ n => match ti.d with
    | .array len _ => if 0 ≤ n ∧ n < len then (if eagg then (if (n.toNat + 1) * esz ≤ cs.length then some (.agg ((cs.drop (n.toNat * esz)).take esz)) else none) else cs[n.toNat * esz]?) else none
    | _ => none
  | _, _ => none
def intOp (op : BinOp) (k : IntKind) (a b : Int) : Option PV :=
  match op with
  | .add => some (.int k (k.wrap (a + b)))
  | .sub => some (.int k (k.wrap (a - b)))
  | .mul => some (.int k (k.wrap (a * b)))
  | .quo => if b = 0 then none else some (.int k (k.wrap (a.tdiv b)))
  | .rem => if b = 0 then none else some (.int k (a.tmod b))
  | .and => some (.int k (k.wrap (BitVec.ofInt k.bits a &&& BitVec.ofInt k.bits b).toNat))
  | .or => some (.int k (k.wrap (BitVec.ofInt k.bits a ||| BitVec.ofInt k.bits b).toNat))
  | .xor => some (.int k (k.wrap (BitVec.ofInt k.bits a ^^^ BitVec.ofInt k.bits b).toNat))
  | .andNot => some (.int k (k.wrap (BitVec.ofInt k.bits a &&& ~~~(BitVec.ofInt k.bits b)).toNat))
  | .eql => some (.bool (decide (a = b)))
  | .neq => some (.bool (!decide (a = b)))
  | .lss => some (.bool (decide (a < b)))
  | .leq => some (.bool (decide (a ≤ b)))
  | .gtr => some (.bool (decide (a > b)))
  | .geq => some (.bool (decide (a ≥ b)))
  | _ => none
def shiftOp (op : BinOp) (k : IntKind) (a b : Int) : Option PV :=
  if b < 0 then none else
  match op with
  | .shl => some (.int k (k.wrap (a * 2 ^ min b.toNat k.bits)))
  | .shr => some (.int k (a.fdiv (2 ^ min b.toNat k.bits)))
  | _ => none
def strOp (op : BinOp) (x y : ByteArray) : Option PV :=
  match op with
  | .add => if x.size + y.size ≤ 9223372036854775807 then some (.str (x ++ y)) else none
  | .eql => some (.bool (x.toList == y.toList))
  | .neq => some (.bool (!(x.toList == y.toList)))
  | .lss => some (.bool (Op.bytesLess x.toList y.toList))
  | .leq => some (.bool (Op.bytesLess x.toList y.toList || x.toList == y.toList))
  | .gtr => some (.bool (!(Op.bytesLess x.toList y.toList || x.toList == y.toList)))
  | .geq => some (.bool (!(Op.bytesLess x.toList y.toList)))
  | _ => none
def evBin (op : BinOp) (ti : TI) (x y : PV) : Option PV :=
  match x, y with
  | .int k a, .int k' b => match op with
    | .shl | .shr => shiftOp op k a b
    | _ => if k = k' then intOp op k a b else none
  | .bool a, .bool b => match ti.d with
    | .bool => (match op with
      | .eql => some (.bool (a == b))
      | .neq => some (.bool (!(a == b)))
      | _ => none)
    | _ => none
  | .str a, .str b => strOp op a b
  | _, _ => none
def nilRes (op : BinOp) : Option PV :=
  match op with
  | .eql => some (.bool false)
  | .neq => some (.bool true)
  | _ => none
def nilTest (op : BinOp) (d : TD) (y : Operand) : Option PV :=
  match d, y with
  | .slice _, .const (.slice none 0 0) => nilRes op
  | _, _ => none
def nilCmp (op : BinOp) (ti : TI) (y : Operand) : PV → Option PV
  | .sl (_ :: _) _ => nilTest op ti.d y
  | .msl _ _ (_ + 1) _ => nilTest op ti.d y
  | _ => none
def evBinO (op : BinOp) (ti : TI) (yo : Operand) (x y : PV) : Option PV :=
  match nilCmp op ti yo x with
  | some v => some v
  | none => evBin op ti x y
def evUn (op : UnOp) : PV → Option PV
  | .int k n => match op with
    | .neg => some (.int k (k.wrap (0 - n)))
    | .xor => some (.int k (k.wrap (BitVec.ofInt k.bits (if k.signed then -1 else k.max) ^^^ BitVec.ofInt k.bits n).toNat))
    | _ => none
  | .bool b => match op with
    | .not => some (.bool (!b))
    | _ => none
  | _ => none
def bytesOf : List (List PV) → Option (List UInt8)
  | [] => some []
  | [.int .u8 n] :: r => (bytesOf r).map fun l => UInt8.ofNat n.toNat :: l
  | _ => none
def strRows (s : ByteArray) : List (List PV) := s.data.toList.map fun b => [.int .u8 b.toNat]
def srcT : TD → Bool
  | .slice _ => true
  | .str => true
  | _ => false
def evLen (ti : TI) : PV → Option PV
  | .str s => match ti.d with | .str => some (.int .i64 s.size) | _ => none
  | .sl rows _ => match ti.d with | .slice _ => some (.int .i64 rows.length) | _ => none
  | .msl _ _ len _ => match ti.d with | .slice _ => some (.int .i64 len) | _ => none
  | _ => none
structure Out where
  v : PV
  new : Option (List (List PV) × Option (Option Nat)) := none
  fz : List Nat := []
def rowsIn (S : Store) : PV → Option (List (List PV))
  | .sl rows _ => some rows
  | .msl id off len _ => (rowsAt S id).bind fun rows => if off + len ≤ rows.length then some ((rows.drop off).take len) else none
  | _ => none
def rowsS (S : Store) : PV → Option (List (List PV))
  | .str s => some (strRows s)
  | y => rowsIn S y
def isU8 (ti : TI) : Bool :=
  match ti.d with
  | .int .u8 => true
  | _ => false
def evConvert (src dst : TI) (u8 : Bool) (S : Store) : PV → Option PV
  | .int _ n => match dst.d with
    | .int k => some (.int k (k.wrap n))
    | _ => none
  | .str s => match dst.d with
    | .str => some (.str s)
    | _ => none
  | y => match src.d, dst.d, u8 with
    | .slice _, .str, true => (rowsIn S y).bind fun rows => (bytesOf rows).map fun l => .str ⟨l.toArray⟩
    | _, _, _ => none
def zeroOK (ti : TI) : Bool :=
  match ti.zero with
  | some z => z.length == ti.size && z.all PV.cell
  | none => false
def mapO {α β : Type} (f : α → Option β) : List α → Option (List β)
  | [] => some []
  | a :: r => (f a).bind fun b => (mapO f r).map fun l => b :: l
def fzCell (S : Store) : Nat → PV → Option PV
  | 0, _ => none
  | d + 1, v =>
    match v with
    | .int .. | .bool _ | .str _ | .cp _ => some v
    | .raw u => if flat u then some (.raw u) else none
    | .sl rows _ => some (.sl rows false)
    | .msl id off len _ => (rowsIn S (.msl id off len false)).bind fun rows => (mapO (mapO (fzCell S d)) rows).map fun rows => .sl rows false
    | .mp id i off => (rowsAt S id).bind fun rows => if i < rows.length then (mapO (fzCell S d) ((rows.getD i []).drop off)).map .cp else none
    | .fn f [] [] => some (.fn f [] [])
    | _ => none
def fzPV1 (S : Store) : PV → Option PV
  | .agg cs => (mapO (fzCell S 8) cs).map .agg
  | .sl [] true => some (.sl [] true)
  | v => fzCell S 8 v
def fzPV (S : Store) : PV → Option PV
  | .tup vs => (mapO (fzPV1 S) vs).map .tup
  | v => fzPV1 S v
def reach (S : Store) : Nat → List Nat → List Nat
  | 0, ids => ids
  | d + 1, ids => ids ++ reach S d (ids.flatMap fun id => match rowsAt S id with | some rows => rowsRefs rows | none => [])
def freeze1 (S : Store) (id : Nat) : Store :=
  match S[id]? with
  | some (.arr rows g _) => S.set id (.arr rows g true)
  | _ => S
def freezeAll (S : Store) (ids : List Nat) : Store := ids.foldl freeze1 S
def place (S : Store) : Option (List (List PV) × Option (Option Nat)) → Store
  | some (rows, g) => S ++ [.arr rows g false]
  | none => S
abbrev CallP := FuncId → List PV → Option PV
abbrev CallR := FuncId → List PV → Store → Option (PV × Store)
def boxed (S : Store) (nid : Nat) (n : Nat) (v : PV) : Option Out :=
  if v.cells.length = n ∧ v.cells.all PV.cell then some { v := .mp nid 0 0, new := some ([v.cells], none) } else none
def exact : PV → Bool
  | .sl _ ex => ex
  | .msl _ _ _ ex => ex
  | _ => false
def evAppendNew (ti esz : Nat) (S : Store) (nid : Nat) (x y : PV) : Option Out :=
  if exact x = true then (rowsIn S x).bind fun rows => (rowsS S y).bind fun new =>
      if rowsOK esz rows ∧ rowsOK esz new ∧ (rows.length + new.length) * ti ≤ 140737488355328 ∧ rows.length + new.length ≤ 9223372036854775807 then
        (if new.length = 0 then (if rows.length = 0 then some { v := .msl nid 0 0 false, new := some ([], some (some esz)) } else some { v := x })
         else some { v := .msl nid 0 (rows.length + new.length) false, new := some (rows ++ new, some (some esz)) })
      else none
  else none
def fillAll (fs : List (Nat × Nat × Bool)) (ρ : Operand → PV) : List PV → List (Nat × Operand) → Option (List PV)
  | cs, [] => some cs
  | cs, (i, x) :: r => match fs[i]? with
    | some (o, n, _) => if (ρ x).cells.length = n ∧ (ρ x).cells.all PV.cell ∧ o + n ≤ cs.length then fillAll fs ρ (cs.take o ++ (ρ x).cells ++ cs.drop (o + n)) r else none
    | none => none
def ev1 (P : Program) (cp : CallP) (o : Oper) (e : Env) (S : Store) (nid : Nat) : Option Out :=
  match o.op with
  | .move x | .assign x => some { v := ev e x }
  | .pick c a b => match ev e c with
    | .bool t => some { v := if t then ev e a else ev e b }
    | _ => none
  | .alloc t => (tyi P t).zero.bind fun z => if z.all PV.cell then some { v := .mp nid 0 0, new := some ([z], none) } else none
  | .box t x => boxed S nid (tyi P t).size (ev e x)
  | .build t parts => match (tyi P t).d with
    | .struct fs => (tyi P t).zero.bind fun z => if z.all PV.cell ∧ (fs.all fun x => decide (x.2.1 ≠ 0)) then (fillAll fs (ev e) z parts.toList).map fun cs => { v := .agg cs } else none
    | _ => none
  | .buildSlice t len parts => match (tyi P t).d with
    | .slice el =>
      let rows := parts.toList.map fun (_, x) => (ev e x).cells
      if parts.toList.map (·.1) = List.range len ∧ rowsOK (tyi P el).size rows ∧ (rows.all fun r => r.all PV.cell) ∧ len * (tyi P el).size ≤ 16777216 ∧ 0 < (tyi P el).size ∧ (tyi P el).zero.isSome then
        some { v := .msl nid 0 len true, new := some (rows, some (some (tyi P el).size)) } else none
    | _ => none
  | .load t a => (evLoad (tyi P t) S (ev e a)).map fun v => { v }
  | .nilCheck x => match ev e x with
    | .mp a b c => some { v := .mp a b c }
    | .cp r => some { v := .cp r }
    | .fn f a b => some { v := .fn f a b }
    | _ => none
  | .binOp op t x y _ => (evBinO op (tyi P t) y (ev e x) (ev e y)).map fun v => { v }
  | .unOp op _ x => (evUn op (ev e x)).map fun v => { v }
  | .convert s d x => if (tyi P s).known then (evConvert (tyi P s) (tyi P d) (isU8 (tyi P (elemTy (tyi P s)))) S (ev e x)).map fun v => { v } else none
  | .makeFunc (.func f) first caps => some { v := .fn f (first.toList.map (ev e)) (caps.toList.map (ev e)) }
  | .makeSlice t l c => match (tyi P t).d, ev e l, ev e c with
    | .slice el, .int _ n, .int _ m => (tyi P el).zero.bind fun z =>
      if 0 ≤ n ∧ n ≤ m ∧ (tyi P el).bytes * m ≤ 281474976710656 ∧ m ≤ 9223372036854775807 ∧ z.length = (tyi P el).size ∧ z.all PV.cell then
        some { v := .msl nid 0 n.toNat (decide (n = m)), new := some (List.replicate n.toNat z, some (some (tyi P el).size)) } else none
    | _, _, _ => none
  | .slice t x lo hi mx => if isSlice (tyi P t) = true ∧ (tyi P (elemTy (tyi P t))).known = false then none else (evSlice (tyi P t) (tyi P (elemTy (tyi P t))).size S (ev e x) (lo.map (ev e)) (hi.map (ev e)) (mx.map (ev e))).map fun v => { v }
  | .fieldAddr t x f => (evFieldAddr (tyi P t) f (ev e x)).map fun v => { v }
  | .field t x f => (evField (tyi P t) f (ev e x)).map fun v => { v }
  | .indexAddr t x i => if isSlice (tyi P t) = true ∧ (tyi P (elemTy (tyi P t))).known = true then (evIndexAddr (tyi P (elemTy (tyi P t))).size S (ev e x) (ev e i)).map fun v => { v } else none
  | .index t x i => match (tyi P t).d with
    | .array n el => if (tyi P el).known then (evIndex { d := .array n el, size := (tyi P t).size, bytes := 0, zero := none } (tyi P el).size (tyi P el).isAgg (ev e x) (ev e i)).map fun v => { v } else none
    | .str => (evIndex { d := .str, size := 0, bytes := 0, zero := none } 0 false (ev e x) (ev e i)).map fun v => { v }
    | _ => none
  | .extract x i => match ev e x with
    | .tup vs => (vs[i]?).map fun v => { v }
    | _ => none
  | .call c => match c.callee with
    | .builtin .len => match c.argTypes[0]?, c.args[0]? with
      | some t, some x => (evLen (tyi P t) (ev e x)).map fun v => { v }
      | _, _ => none
    | .builtin .max => match c.args.toList.map (ev e) with
      | [.int k a, .int _ b] => some { v := .int k (if b > a then b else a) }
      | _ => none
    | .builtin .min => match c.args.toList.map (ev e) with
      | [.int k a, .int _ b] => some { v := .int k (if b < a then b else a) }
      | _ => none
    | .builtin .append => match c.argTypes[0]?, c.argTypes[1]?, c.args.toList with
      | some t, some u, [x, y] => match (tyi P t).d with
        | .slice el => if srcT (tyi P u).d = true ∧ zeroOK (tyi P el) = true then evAppendNew (tyi P el).bytes (tyi P el).size S nid (ev e x) (ev e y) else none
        | _ => none
      | _, _, _ => none
    | .value f => match ev e f with
      | .fn f first caps => if (reach S 8 ((first ++ c.args.toList.map (ev e) ++ caps).flatMap PV.refs)).all (fun i => decide (i < S.length)) then
          (mapO (fzPV S) (first ++ c.args.toList.map (ev e) ++ caps)).bind fun args => (cp f args).map fun v =>
          { v, fz := reach S 8 ((first ++ c.args.toList.map (ev e) ++ caps).flatMap PV.refs) } else none
      | _ => none
    | _ => none
  | _ => none
structure LoopHint where
  live : List Nat
  after : List Nat
  own : List Nat := []
  fz : List Nat := []
structure Hint where
  keep : List Nat
  loops : List (Nat × LoopHint) := []
  regs : List (Nat × List Nat) := []
def Hint.at (h : Hint) (id : Nat) : List Nat := (h.regs.lookup id).getD h.keep
structure Hints where
  refs : FuncId → Bool
  of : FuncId → Hint
  reads : FuncId → Bool := fun _ => false
  orc : FuncId → Option (List PV → Option PV) := fun _ => none
def noRefs (args : List PV) : Bool := args.all fun a => a.refs.isEmpty
structure Ctx where
  P : Program
  H : Hints
  cp : CallP
  cr : CallR
  base : Nat
  h : Hint
structure Eff where
  v : PV
  S : Store
  kill : List Nat := []
def isEff (H : Hints) (o : Oper) (e : Env) : Bool :=
  match o.op with
  | .store .. => true
  | .call c => match c.callee with
    | .builtin .append => match c.args[0]? with | some x => !exact (ev e x) | none => true
    | .builtin .copy => true
    | .value (.func f) => H.refs f
    | .value _ => true
    | _ => false
  | _ => false
def splice (row : List PV) (off : Nat) (cs : List PV) : List PV :=
  if off = 0 ∧ cs.length = row.length then cs else row.take off ++ cs ++ row.drop (off + cs.length)
def evStore (n : Nat) (S : Store) (a v : PV) : Option Store :=
  match a with
  | .mp id i off => match S[id]? with
    | some (.arr rows g false) =>
      if i < rows.length ∧ off + n ≤ (rows.getD i []).length ∧ v.cells.length = n ∧ v.cells.all PV.cell then some (S.set id (.arr (rows.set i (splice (rows.getD i []) off v.cells)) g false)) else none
    | _ => none
  | _ => none
def kill1 (ids : List Nat) (v : PV) : PV := if v.refs.any fun i => ids.contains i then .undef else v
def killE (ids : List Nat) (e : Env) : Env := if ids = [] then e else e.map fun (t, v) => (t, kill1 ids v)
def killRows (ids : List Nat) (rows : List (List PV)) : List (List PV) := if (rowsRefs rows).any fun i => ids.contains i then rows.map fun r => r.map (kill1 ids) else rows
def killObj (ids : List Nat) : Obj → Obj
  | .arr rows g f => .arr (killRows ids rows) g f
  | .gone => .gone
def evAppend1 (base bytes esz : Nat) (S : Store) (x y : PV) : Option Eff :=
  match x with
  | .msl id 0 len _ => match S[id]? with
    | some (.arr rows (some g) false) => (rowsS S y).bind fun new =>
      if base ≤ id ∧ len = rows.length ∧ (g = none ∨ g = some esz) ∧ rowsOK esz rows ∧ rowsOK esz new ∧ (rows.length + new.length) * bytes ≤ 140737488355328 ∧ rows.length + new.length ≤ 9223372036854775807 ∧ ((rowsRefs rows ++ rowsRefs new).contains id) = false then
        some { v := .msl id 0 (rows.length + new.length) false, S := (S.map (killObj [id])).set id (.arr (rows ++ new) (some (some esz)) false), kill := [id] } else none
    | _ => none
  | _ => none
def renewed (id : Nat) (S : Store) (r : Eff) : Eff :=
  { v := (match r.v with | .msl _ o l ex => .msl S.length o l ex | v => v), S := (r.S.set id .gone) ++ [r.S.getD id .gone], kill := r.kill }
def evAppend (base bytes esz : Nat) (S : Store) (x y : PV) : Option Eff :=
  match x with
  | .msl id _ _ _ => if base ≤ id then evAppend1 base bytes esz S x y else (evAppend1 0 bytes esz S x y).map (renewed id S)
  | _ => none
def evCopy (esz : Nat) (S : Store) (x y : PV) : Option Eff :=
  match x with
  | .msl id off len _ => match S[id]? with
    | some (.arr rows g false) => (rowsIn S y).bind fun src =>
      if off + len ≤ rows.length ∧ rowsOK esz rows ∧ rowsOK esz src then
        some { v := .int .i64 (min src.length len : Nat), S := S.set id (.arr (rows.take off ++ src.take len ++ rows.drop (off + min src.length len)) g false) } else none
    | _ => none
  | _ => none
def belowL (n : Nat) (vs : List PV) : Bool := (refsL vs).all fun i => decide (i < n)
def closedS (S : Store) : Bool := S.all fun | .arr rows _ _ => (rowsRefs rows).all (fun i => decide (i < S.length)) | .gone => true
def Keep0 (b : Bool) (S S' : Store) : Prop := b = true → S'.take S.length = S
noncomputable instance (b : Bool) (S S' : Store) : Decidable (Keep0 b S S') := if h : b = true then Classical.propDecidable _ else .isTrue fun h' => absurd h' h
noncomputable def ev2 (C : Ctx) (o : Oper) (e : Env) (S : Store) : Option Eff :=
  match o.op with
  | .store t a v => if (tyi C.P t).known then (evStore (tyi C.P t).size S (ev e a) (ev e v)).map fun S => { v := .skip, S } else none
  | .call c => match c.callee with
    | .builtin .append => match c.argTypes[0]?, c.argTypes[1]?, c.args.toList with
      | some t, some u, [x, y] => match (tyi C.P t).d with
        | .slice el => if srcT (tyi C.P u).d = true ∧ zeroOK (tyi C.P el) = true then evAppend C.base (tyi C.P el).bytes (tyi C.P el).size S (ev e x) (ev e y) else none
        | _ => none
      | _, _, _ => none
    | .builtin .copy => match c.argTypes[0]?, c.argTypes[1]?, c.args.toList with
      | some t, some u, [x, y] => match (tyi C.P t).d, (tyi C.P u).d with
        | .slice el, .slice _ => if (tyi C.P el).known then evCopy (tyi C.P el).size S (ev e x) (ev e y) else none
        | _, _ => none
      | _, _, _ => none
    | .value f => match ev e f with
      | .fn f first caps =>
        let as := first ++ c.args.toList.map (ev e) ++ caps
        if C.H.refs f then (C.cr f as S).bind fun (v, S') => if S.length ≤ S'.length ∧ closedS S = true ∧ belowL S.length as = true ∧ Keep0 (C.H.reads f) S S' then some { v, S := S' } else none
        else (mapO (fzPV S) as).bind fun args => (C.cp f args).map fun v => { v, S := freezeAll S (reach S 8 (as.flatMap PV.refs)) }
      | _ => none
    | _ => none
  | _ => none
def wantedV (ops : Array Oper) (e : Env) (o : Oper) : Option Bool :=
  match o.guard with
  | none => some true
  | some (j, want) => match (ops[j]?).bind (·.dst) with
    | some t => match get e t with
      | .bool b => some (b == want)
      | .skip => some false
      | _ => none
    | none => some false
noncomputable def stepOp (C : Ctx) (ops : Array Oper) (o : Oper) (e : Env) (S : Store) : Option (Env × Store) :=
  (wantedV ops e o).bind fun w =>
    if w then
      (if isEff C.H o e then (ev2 C o e S).map fun r => (putD (killE r.kill e) o.dst r.v, r.S)
       else (ev1 C.P C.cp o e S S.length).map fun r => (putD e o.dst r.v, place (freezeAll S r.fz) r.new))
    else some (putD e o.dst .skip, S)
noncomputable def runOps (C : Ctx) (ops : Array Oper) : List Oper → Env → Store → Option (Env × Store)
  | [], e, S => some (e, S)
  | o :: r, e, S => (stepOp C ops o e S).bind fun (e, S) => runOps C ops r e S
def kind (H : Hints) (o : Oper) (e : Env) : Nat :=
  if isEff H o e then (match o.op with
    | .store .. => 3
    | .call c => (match c.callee with
      | .value f => (match ev e f with | .fn g _ _ => if H.refs g then (if H.reads g then 6 else 5) else 4 | _ => 4)
      | _ => 4)
    | _ => 4) else
  match o.op with
  | .move _ | .assign _ | .pick .. | .binOp .. | .unOp .. | .extract .. | .field .. | .index .. | .makeFunc .. | .build .. | .fieldAddr .. | .nilCheck _ => 0
  | .alloc _ | .box .. | .buildSlice .. | .makeSlice .. => 2
  | _ => 1
def isLoad (o : Oper) : Bool := match o.op with | .load .. => true | _ => false
def swapK (kp ko : Nat) (p : Oper) : Bool :=
  if kp = 4 ∨ ko = 4 then false
  else if kp = 5 ∨ kp = 6 then ko == 2
  else if ko = 5 then kp == 0
  else if ko = 6 then kp == 0 || (kp == 1 && isLoad p)
  else !(kp == 3 && (ko == 1 || ko == 3)) && !(ko == 3 && kp == 1)
def swapOK (ops : Array Oper) (kp ko : Nat) (p o : Oper) : Bool := Oper.apart ops p o && swapK kp ko p
def touch (o : Oper) (e : Env) : Nat := match o.op with
  | .store _ a _ => (match ev e a with | .mp id _ _ => id + 1 | _ => 0)
  | .indexAddr _ x _ => (match ev e x with | .msl id _ _ _ => id + 1 | _ => 0)
  | _ => 0
def farK (kp ko tp to : Nat) : Bool := (kp == 1 || kp == 3) && (ko == 1 || ko == 3) && !(tp == 0) && !(to == 0) && !(tp == to)
def drawOK (ops : Array Oper) (k : Nat → Nat) : Bool :=
  let b := Region.before ops
  (List.range ops.size).all fun j => match ops[j]? with
    | none => true
    | some o => (o.after.all fun e => !Region.binds .any e || decide (e.on < j)) &&
      (List.range j).all fun i => match ops[i]? with
        | none => true
        | some p => (b.getD j 0).testBit i || (swapOK ops (k i % 8) (k j % 8) p o || (Oper.apart ops p o && farK (k i % 8) (k j % 8) (k i / 8) (k j / 8)))
def tame (o : Oper) : Bool :=
  match o.op with
  | .call c => (match c.callee with | .builtin .len | .builtin .max | .builtin .min => true | _ => false)
  | _ => true
def freshAt (ops : Array Oper) (t : Nat) : Nat → Bool
  | 0 => false
  | j + 1 => match ops[j]? with
    | none => false
    | some p => if p.dst = some t then (p.guard.isNone && (match p.op with | .buildSlice .. => true | .slice _ _ _ _ mx => mx.isSome | _ => false)) else (tame p && freshAt ops t j)
def kindS (H : Hints) (ops : Array Oper) (j : Nat) : Nat :=
  match ops[j]? with
  | some o => (match o.op with
    | .call c => (match c.callee with
      | .builtin .append => (match c.args[0]? with | some (Operand.const _) => kind H o [] | some (Operand.tmp t) => (if freshAt ops t j = true then 1 else 4) | _ => 4)
      | _ => kind H o [])
    | _ => kind H o [])
  | none => 0
noncomputable def kindsOf (C : Ctx) (ops : Array Oper) : List Oper → Env → Store → List Nat
  | [], _, _ => []
  | o :: r, e, S => (kind C.H o e + 8 * touch o e) :: (match stepOp C ops o e S with | some (e, S) => kindsOf C ops r e S | none => [])
noncomputable def runRegion (C : Ctx) (ops : Array Oper) (draw : Bool) (e : Env) (S : Store) : Option (Env × Store) :=
  if draw then (if drawOK ops (kindS C.H ops) || drawOK ops (fun j => (kindsOf C ops ops.toList e S).getD j 0) then runOps C ops ops.toList e S else none) else runOps C ops ops.toList e S
inductive X where
  | normal | exit (id : Nat) | ret
  deriving DecidableEq
def condV {α : Type} (v : PV) (x y : Option α) : Option α :=
  match v with
  | .bool t => if t then x else y
  | _ => none
def keepOnly (live : List Nat) (e : Env) : Env := e.map fun (t, v) => if live.contains t then (t, v) else (t, .undef)
def gc (n : Nat) (e : Env) (S : Store) : Store :=
  if (e.all fun (_, v) => v.refs.all fun i => decide (i < n)) ∧ ((S.take n).all fun | .arr rows _ _ => (rowsRefs rows).all fun i => decide (i < n) | .gone => true) then S.take n else S
def ownCell (S : Store) (id i j : Nat) : Store :=
  match S[id]? with
  | some (.arr rows g f) => (match (rows.getD i [])[j]? with
    | some (.sl [] true) => S.set id (.arr (rows.set i ((rows.getD i []).set j (.msl S.length 0 0 false))) g f) ++ [.arr [] (some none) false]
    | some (.msl a o l true) => S.set id (.arr (rows.set i ((rows.getD i []).set j (.msl a o l false))) g f)
    | _ => S)
  | _ => S
def ownMem (S : Store) (x : PV) (j : Nat) : Store :=
  match x with
  | .mp id i off => ownCell S id i (off + j)
  | .msl id off len _ => (List.range len).foldl (fun S k => ownCell S id (off + k) j) S
  | _ => S
def own1 (e : Env) (S : Store) (t : Nat) : Env × Store :=
  if t < 1000 then (match get e t with
  | .sl [] true => (put e t (.msl S.length 0 0 false), S ++ [.arr [] (some none) false])
  | .msl id off len true => (put e t (.msl id off len false), S)
  | _ => (e, S))
  else (e, ownMem S (get e (t % 1000)) (t / 1000 - 1))
def ownAll (ts : List Nat) (e : Env) (S : Store) : Env × Store := ts.foldl (fun (e, S) t => own1 e S t) (e, S)
def fzSlot (e : Env) (S : Store) (t : Nat) : Option (Env × Store) :=
  (fzPV S (get e t)).map fun v => (put e t v, freezeAll S (reach S 8 (get e t).refs))
def fzSlots : List Nat → Env → Store → Option (Env × Store)
  | [], e, S => some (e, S)
  | t :: r, e, S => (fzSlot e S t).bind fun (e, S) => fzSlots r e S
def normG (live fz : List Nat) (n : Nat) (e : Env) (S : Store) : Option (Env × Store) := (fzSlots fz (keepOnly live e) S).map fun r => (r.1, gc n r.1 r.2)
def afterG (b n : Nat) (after : List Nat) (q : X × Env × Store) : X × Env × Store :=
  if q.1 = .exit b then (q.1, keepOnly after q.2.1, gc n (keepOnly after q.2.1) q.2.2) else q
def loopN (body : Env → Store → Option (X × Env × Store)) (norm : Env → Store → Option (Env × Store)) : Nat → Env → Store → Option (X × Env × Store)
  | 0, _, _ => none
  | n + 1, e, S => (body e S).bind fun (x, e, S) =>
    match x with
    | .normal => (norm e S).bind fun (e, S) => loopN body norm n e S
    | x => some (x, e, S)
noncomputable def exec (C : Ctx) (k : Nat) : Nat → Code → Env → Store → Option (X × Env × Store)
  | _, .skip, e, S => some (.normal, e, S)
  | _, .region id ops draw, e, S => (runRegion C ops draw e S).map fun (e, S) => (.normal, trim (C.h.at id) e, S)
  | b, .seq x y, e, S => (exec C k b x e S).bind fun (r, e, S) =>
    match r with
    | .normal => exec C k b y e S
    | r => some (r, e, S)
  | b, .cond c x y, e, S => condV (ev e c) (exec C k b x e S) (exec C k b y e S)
  | _, .block id body, e, S => (exec C k id body e S).map fun (r, e, S) => (if r = .exit id then .normal else r, e, S)
  | b, .loop body, e, S =>
    (C.h.loops.lookup b).bind fun h =>
    (fzSlots h.fz (ownAll h.own (keepOnly h.live e) S).1 (ownAll h.own (keepOnly h.live e) S).2).bind fun r =>
    (loopN (exec C k b body) (normG h.live h.fz r.2.length) k r.1 r.2).map (afterG b r.2.length h.after)
  | _, .exit id, e, S => some (.exit id, e, S)
  | _, .ret, e, S => some (.ret, e, S)
  | _, _, _, _ => none
def codeOK (nt : Nat) : Code → Bool
  | .region _ ops _ => ops.all fun o => match o.dst with | some d => decide (d < nt) | none => true
  | .seq x y => codeOK nt x && codeOK nt y
  | .cond _ x y => codeOK nt x && codeOK nt y
  | .block _ x => codeOK nt x
  | .loop x => codeOK nt x
  | _ => true
def evResult (P : Program) (e : Env) (S : Store) : ResultVar → Option PV
  | .tmp t => some (get e t)
  | .cell a t => evLoad (tyi P t) S (get e a)
def evResults (P : Program) (fn : Func) (e : Env) (S : Store) : Option PV :=
  (mapO (evResult P e S) fn.results.toList).map fun vs => match vs with | [v] => v | vs => .tup vs
noncomputable def callF (P : Program) (H : Hints) : Nat → FuncId → List PV → Store → Option (PV × Store)
  | 0, _, _, _ => none
  | k + 1, f, args, S => match H.orc f with
    | some g => if noRefs args = true then (g args).map fun v => (v, S) else none
    | none => match P.funcs[f]? with
    | some fn => match fn.body with
      | some c =>
        if args.length ≤ fn.ntmps ∧ fn.name ≠ "runtime.NumGoroutine" ∧ codeOK fn.ntmps c = true then
          (exec { P, H, cp := fun g as => (callF P H k g as []).bind fun (r, S) => fzPV S r, cr := callF P H k, base := S.length, h := H.of f } k 0 c ((List.range args.length).zip args) S).bind fun (r, e, S) =>
            match r with
            | .exit _ => none
            | _ => (evResults P fn e S).map fun v => (v, S)
        else none
      | none => none
    | none => none
noncomputable def callP (P : Program) (H : Hints) (k : Nat) (f : FuncId) (args : List PV) : Option PV :=
  (callF P H k f args []).bind fun (r, S) => fzPV S r
end Go.Vs
end
section
set_option linter.unusedVariables false
set_option linter.unusedSimpArgs false
namespace Go.Vs
open Go
theorem add_add (a : Addr) (m n : Nat) : (a.add m).add n = a.add (m + n) := by
  unfold Addr.add
  by_cases hm : m = 0
  · subst hm; simp
  · by_cases hn : n = 0
    · subst hn; simp
    · simp [hm, hn, Nat.add_assoc]
theorem add_plain (g o j : Nat) : (⟨g, o, none⟩ : Addr).add j = ⟨g, o + j, none⟩ := by
  unfold Addr.add; split <;> simp_all
theorem add_block (a : Addr) (n : Nat) : (a.add n).block = a.block := by unfold Addr.add; split <;> rfl
structure Blk where
  b : Nat
  sz : Nat
  tot : Nat
abbrev Mu := Nat → Option Blk
structure Arr where
  rows : List (List PV)
  g : Option (Option Nat)
  f : Bool
abbrev Arrs := Nat → Option Arr
def arrs (S : Store) : Arrs := fun id => match S[id]? with
  | some (.arr rows g f) => some ⟨rows, g, f⟩
  | _ => none
section
variable (w : World) (av : Nat → Prop)
inductive FR : PV → Value → Prop
  | int (k : IntKind) (n : Int) : FR (.int k n) (.int k n)
  | bool (b : Bool) : FR (.bool b) (.bool b)
  | str (s : ByteArray) : FR (.str s) (.string s)
  | raw (v : Value) (h : flat v = true) : FR (.raw v) v
  | sl (rows : List (List PV)) (ex : Bool) (a : Option Addr) (cap : Nat) (ad : Addr) (sz : Nat) (c : Nat → Nat → Value)
      (hcap : rows.length ≤ cap) (hex : ex = true → cap = rows.length) (ha : a = none → cap = 0) (had : rows ≠ [] → a = some ad)
      (hsz : ∀ r ∈ rows, r.length = sz)
      (hc : ∀ i row j pv, rows[i]? = some row → row[j]? = some pv → w.cell? (ad.add (i * sz + j)) = some (c i j) ∧ ¬ av ad.block)
      (hr : ∀ i row j pv, rows[i]? = some row → row[j]? = some pv → FR pv (c i j)) : FR (.sl rows ex) (.slice a rows.length cap)
  | cp (row : List PV) (ad : Addr) (c : Nat → Value)
      (hc : ∀ j pv, row[j]? = some pv → w.cell? (ad.add j) = some (c j) ∧ ¬ av ad.block)
      (hr : ∀ j pv, row[j]? = some pv → FR pv (c j)) : FR (.cp row) (.pointer (some ad))
  | fn (f : FuncId) : FR (.fn f [] []) (.func (.func f) #[] #[])
theorem FR.flat {pv : PV} {v : Value} (h : FR w av pv v) : flat v = true := by cases h <;> first | rfl | assumption
variable (μ : Mu)
inductive VR : PV → Value → Prop
  | fr {pv : PV} {v : Value} (h : FR w av pv v) : VR pv v
  | undef (v : Value) : VR .undef v
  | skip : VR .skip Go.undef
  | raw (v : Value) : VR (.raw v) v
  | msl (id off len : Nat) (ex : Bool) (ad : Addr) (cap : Nat) (b : Blk) (hμ : μ id = some b) (hlen : len ≤ cap) (htot : (off + cap) * b.sz ≤ b.tot)
      (hex : ex = true → cap = len) (had : 0 < cap → ad = ⟨b.b, off * b.sz, none⟩) : VR (.msl id off len ex) (.slice (some ad) len cap)
  | mslNil (id : Nat) (ex : Bool) (a : Option Addr) : VR (.msl id 0 0 ex) (.slice a 0 0)
  | mp (id i off : Nat) (b : Blk) (hμ : μ id = some b) : VR (.mp id i off) (.pointer (some ⟨b.b, i * b.sz + off, none⟩))
  | agg (cells : List PV) (cs : Array Value) (hn : cells.length = cs.size) (hf : ∀ (j : Nat) (v : Value), cs[j]? = some v → Vs.flat v = true)
      (hr : ∀ (j : Nat) (pv : PV) (v : Value), cells[j]? = some pv → cs[j]? = some v → VR pv v) : VR (.agg cells) (.agg cs)
  | tup (vs : List PV) (us : Array Value) (hn : vs.length = us.size) (hr : ∀ (j : Nat) (pv : PV) (v : Value), vs[j]? = some pv → us[j]? = some v → VR pv v) : VR (.tup vs) (.tuple us)
  | fn (f : FuncId) (x y : List PV) (u v : Array Value) (hx : x.length = u.size) (hy : y.length = v.size)
      (rx : ∀ (j : Nat) (pv : PV) (v : Value), x[j]? = some pv → u[j]? = some v → VR pv v) (ry : ∀ (j : Nat) (pv : PV) (v' : Value), y[j]? = some pv → v[j]? = some v' → VR pv v') : VR (.fn f x y) (.func (.func f) u v)
end
theorem VR.flat_of_cell {w : World} {av : Nat → Prop} {μ : Mu} {pv : PV} {v : Value} (h : VR w av μ pv v) (hc : pv.cell = true) : flat v = true := by
  cases h with
  | fr h => exact FR.flat w av h
  | raw => simpa [PV.cell] using hc
  | msl => rfl
  | mslNil => rfl
  | mp => rfl
  | fn => rfl
  | undef => simp [PV.cell] at hc
  | skip => simp [PV.cell] at hc
  | agg => simp [PV.cell] at hc
  | tup => simp [PV.cell] at hc
def Keeps (w : World) (av : Nat → Prop) (w' : World) (av' : Nat → Prop) : Prop :=
  ∀ a u, w.cell? a = some u → ¬ av a.block → w'.cell? a = some u ∧ ¬ av' a.block
theorem Keeps.refl (w : World) (av : Nat → Prop) : Keeps w av w av := fun _ _ h k => ⟨h, k⟩
theorem Keeps.trans {w w1 w2 : World} {av av1 av2 : Nat → Prop} (h : Keeps w av w1 av1) (k : Keeps w1 av1 w2 av2) : Keeps w av w2 av2 :=
  fun a u h1 h2 => let ⟨x, y⟩ := h a u h1 h2; k a u x y
theorem Keeps.less {w : World} {av av' : Nat → Prop} (h : ∀ b, av' b → av b) : Keeps w av w av' := fun _ _ h1 h2 => ⟨h1, fun h3 => h2 (h _ h3)⟩
theorem FR.mono {w w' : World} {av av' : Nat → Prop} (hk : Keeps w av w' av') {pv : PV} {v : Value} (h : FR w av pv v) : FR w' av' pv v := by
  induction h with
  | int k n => exact .int k n
  | bool b => exact .bool b
  | str s => exact .str s
  | raw v h => exact .raw v h
  | sl rows ex a cap ad sz c hcap hex ha had hsz hc hr ih =>
    refine .sl rows ex a cap ad sz c hcap hex ha had hsz (fun i row j pv h1 h2 => ?_) ih
    have := hc i row j pv h1 h2
    have := hk _ _ this.1 (by rw [add_block]; exact this.2)
    rwa [add_block] at this
  | cp row ad c hc hr ih =>
    refine .cp row ad c (fun j pv h1 => ?_) ih
    have := hc j pv h1
    have := hk _ _ this.1 (by rw [add_block]; exact this.2)
    rwa [add_block] at this
  | fn f => exact .fn f
theorem mem_refsL {l : List PV} {j : Nat} {pv : PV} (h : l[j]? = some pv) {i : Nat} (hi : i ∈ pv.refs) : i ∈ refsL l := by
  induction l generalizing j with
  | nil => simp at h
  | cons a r ih =>
    simp only [refsL, List.mem_append]
    cases j with
    | zero => simp at h; subst h; exact .inl hi
    | succ j => simp at h; exact .inr (ih h)
theorem VR.mono {w w' : World} {av av' : Nat → Prop} {μ μ' : Mu} (hk : Keeps w av w' av') {pv : PV} {v : Value} (h : VR w av μ pv v)
    (hμ : ∀ i ∈ pv.refs, ∀ b, μ i = some b → μ' i = some b) : VR w' av' μ' pv v := by
  induction h with
  | fr h => exact .fr (h.mono hk)
  | undef v => exact .undef v
  | skip => exact .skip
  | raw v => exact .raw v
  | msl id off len ex ad cap b hm hlen htot hex had => exact .msl id off len ex ad cap b (hμ id (by simp [PV.refs]) b hm) hlen htot hex had
  | mslNil id ex a => exact .mslNil id ex a
  | mp id i off b hm => exact .mp id i off b (hμ id (by simp [PV.refs]) b hm)
  | agg cells cs hn hf hr ih => exact .agg cells cs hn hf fun j pv v h1 h2 => ih j pv v h1 h2 fun i hi => hμ i (by simp only [PV.refs]; exact mem_refsL h1 hi)
  | tup vs us hn hr ih => exact .tup vs us hn fun j pv v h1 h2 => ih j pv v h1 h2 fun i hi => hμ i (by simp only [PV.refs]; exact mem_refsL h1 hi)
  | fn f x y u v hx hy rx ry ihx ihy =>
    exact .fn f x y u v hx hy (fun j pv v h1 h2 => ihx j pv v h1 h2 fun i hi => hμ i (by simp only [PV.refs, List.mem_append]; exact .inl (mem_refsL h1 hi)))
      (fun j pv v h1 h2 => ihy j pv v h1 h2 fun i hi => hμ i (by simp only [PV.refs, List.mem_append]; exact .inr (mem_refsL h1 hi)))
def Mut (A : Arrs) (μ : Mu) (b : Nat) : Prop := ∃ id rows g k, A id = some ⟨rows, g, false⟩ ∧ μ id = some k ∧ k.b = b
def Av (X : Nat → Prop) (A : Arrs) (μ : Mu) (b : Nat) : Prop := X b ∨ Mut A μ b
structure SR (w : World) (X : Nat → Prop) (A : Arrs) (n : Nat) (μ : Mu) : Prop where
  lt : ∀ id, n ≤ id → μ id = none ∧ A id = none
  blk : ∀ id a, A id = some a → ∀ b, μ id = some b → ∃ c el, w.heap[b.b]? = some (.cells c el (0, 0)) ∧ c.size = b.tot ∧ a.rows.length * b.sz ≤ b.tot ∧
      (∀ r ∈ a.rows, r.length = b.sz) ∧
      ∀ i row j pv, a.rows[i]? = some row → row[j]? = some pv → ∃ v, c[i * b.sz + j]? = some v ∧ flat v = true ∧ VR w (Av X A μ) μ pv v
  nob : ∀ id a, A id = some a → μ id = none → a.rows = []
  gsz : ∀ id a, A id = some a → (a.g = some none → μ id = none) ∧ ∀ k, a.g = some (some k) → ∀ b, μ id = some b → b.sz = k
  inj : ∀ id id' a a' b b', A id = some a → A id' = some a' → μ id = some b → μ id' = some b' → b.b = b'.b → id = id'
  out : ∀ id a b, A id = some a → μ id = some b → ¬ X b.b
  xlt : ∀ b, X b → b < w.heap.size
structure Tr (base : Nat) (w : World) (A : Arrs) (μ : Mu) (w' : World) (A' : Arrs) (μ' : Mu) : Prop where
  os : w'.os = w.os
  tape : w'.tape = w.tape
  output : w'.output = w.output
  size : w.heap.size ≤ w'.heap.size
  keep : ∀ b, b < w.heap.size → ¬ Mut A μ b → w'.heap[b]? = w.heap[b]?
  less : ∀ b, b < w.heap.size → Mut A' μ' b → Mut A μ b
  mu : ∀ id, id < base → μ' id = μ id
theorem Tr.refl (base : Nat) (w : World) (A : Arrs) (μ : Mu) : Tr base w A μ w A μ := ⟨rfl, rfl, rfl, Nat.le_refl _, fun _ _ _ => rfl, fun _ _ h => h, fun _ _ => rfl⟩
theorem Tr.trans {base : Nat} {w w1 w2 : World} {A A1 A2 : Arrs} {μ μ1 μ2 : Mu} (h : Tr base w A μ w1 A1 μ1) (k : Tr base w1 A1 μ1 w2 A2 μ2) : Tr base w A μ w2 A2 μ2 :=
  ⟨k.os.trans h.os, k.tape.trans h.tape, k.output.trans h.output, Nat.le_trans h.size k.size,
   fun b hb hm => (k.keep b (Nat.lt_of_lt_of_le hb h.size) fun h1 => hm (h.less b hb h1)).trans (h.keep b hb hm),
   fun b hb hm => h.less b hb (k.less b (Nat.lt_of_lt_of_le hb h.size) hm), fun id hi => (k.mu id hi).trans (h.mu id hi)⟩
theorem block_lt {w : World} {a : Addr} {u : Value} (h : w.cell? a = some u) : a.block < w.heap.size := by
  unfold World.cell? at h
  cases hh : w.heap[a.block]? with
  | none => rw [hh] at h; simp at h
  | some o => exact (Array.getElem?_eq_some_iff.1 hh).1
theorem cell_of_heap {w w' : World} {a : Addr} (h : w'.heap[a.block]? = w.heap[a.block]?) : w'.cell? a = w.cell? a := by unfold World.cell?; rw [h]
theorem Tr.keeps {base : Nat} {w w' : World} {X : Nat → Prop} {A A' : Arrs} {μ μ' : Mu} (h : Tr base w A μ w' A' μ') : Keeps w (Av X A μ) w' (Av X A' μ') := by
  intro a u h1 h2
  have hl := block_lt h1
  have h3 : ¬ Mut A μ a.block := fun x => h2 (.inr x)
  refine ⟨by rw [cell_of_heap (h.keep _ hl h3)]; exact h1, fun hx => ?_⟩
  rcases hx with hx | hx
  · exact h2 (.inl hx)
  · exact h3 (h.less _ hl hx)
end Go.Vs
end
section
set_option linter.unusedVariables false
set_option linter.unusedSimpArgs false
namespace Go.Vs
open Go
theorem flat_oneCell {v : Value} (h : flat v = true) : v.oneCell' = true := by cases v <;> simp_all [flat, Value.oneCell']
theorem tyi_known {P : Program} {t : TypeId} (h : (tyi P t).known = true) : ∃ d i, P.underlying t = some d ∧ P.info? t = some i ∧ i.size = (tyi P t).size ∧ i.bytes = (tyi P t).bytes := by
  have h' : (P.underlying t).isSome = true := h
  obtain ⟨d, hd⟩ := Option.isSome_iff_exists.1 h'
  cases hi : P.info? t with
  | none => simp [Program.underlying, hi] at hd
  | some i => exact ⟨d, i, hd, rfl, by simp [tyi, Program.cellsOf, hi], by simp [tyi, Program.bytesOf, hi]⟩
theorem tyi_slice {P : Program} {t e : TypeId} (h : (tyi P t).d = .slice e) : P.underlying t = some (.slice e) := by
  unfold tyi at h
  revert h
  cases P.underlying t with
  | none => simp
  | some d => cases d <;> simp
theorem tyi_str {P : Program} {t : TypeId} (h : (tyi P t).d = .str) : P.underlying t = some .string := by
  unfold tyi at h
  revert h
  cases P.underlying t with
  | none => simp
  | some d => cases d <;> simp
theorem tyi_bool {P : Program} {t : TypeId} (h : (tyi P t).d = .bool) : P.underlying t = some .bool := by
  unfold tyi at h
  revert h
  cases P.underlying t with
  | none => simp
  | some d => cases d <;> simp
theorem tyi_int {P : Program} {t : TypeId} {k : IntKind} (h : (tyi P t).d = .int k) : P.underlying t = some (.int k) := by
  unfold tyi at h
  revert h
  cases P.underlying t with
  | none => simp
  | some d => cases d <;> simp
theorem tyi_struct {P : Program} {t : TypeId} {fs : List (Nat × Nat × Bool)} (h : (tyi P t).d = .struct fs) : ∃ gs : Array Field, P.underlying t = some (.struct gs) ∧ fs = gs.toList.map fun f => (f.offset, sizeK P f.type, isAggB P f.type) := by
  unfold tyi at h
  revert h
  cases P.underlying t with
  | none => simp
  | some d => cases d <;> simp <;> (intro h; exact h.symm)
theorem sizeK_ne {P : Program} {t : TypeId} (h : sizeK P t ≠ 0) : ∃ d i, P.underlying t = some d ∧ P.info? t = some i ∧ i.size = sizeK P t := by
  unfold sizeK at *
  by_cases hk : (P.underlying t).isSome = true
  · rw [if_pos hk] at h ⊢
    obtain ⟨d, i, hd, hi, hs, _⟩ := tyi_known (P := P) (t := t) (by simpa [tyi] using hk)
    exact ⟨d, i, hd, hi, hs⟩
  · rw [if_neg hk] at h; exact absurd rfl h
theorem tyi_array {P : Program} {t e : TypeId} {n : Nat} (h : (tyi P t).d = .array n e) : P.underlying t = some (.array n e) := by
  unfold tyi at h
  revert h
  cases P.underlying t with
  | none => simp
  | some d => cases d <;> simp
theorem isAgg_eq {P : Program} {t : TypeId} : (tyi P t).isAgg = isAggB P t := by
  unfold tyi TI.isAgg isAggB
  cases P.underlying t with
  | none => simp
  | some d => cases d <;> simp
theorem run_isAgg {P : Program} {t : TypeId} {d : TypeDesc} (h : P.underlying t = some d) (w : World) : (isAgg t).run P w = .ok (isAggB P t) w := by
  simp only [isAgg, Sem.run_bind, run_underlying h, Result.andThen_ok, isAggB, h]
  cases d <;> rfl
theorem run_sizeOf' {P : Program} {t : TypeId} {i : TypeInfo} (h : P.info? t = some i) (w : World) : (sizeOf t).run P w = .ok i.size w := by
  simp [sizeOf, typeInfo, h]
section
variable {P : Program} {w : World} {av : Nat → Prop} {μ : Mu}
theorem VR.int_inv {k : IntKind} {n : Int} {v : Value} (h : VR w av μ (.int k n) v) : v = .int k n := by cases h with | fr h => cases h; rfl
theorem VR.bool_inv {b : Bool} {v : Value} (h : VR w av μ (.bool b) v) : v = .bool b := by cases h with | fr h => cases h; rfl
theorem VR.str_inv {s : ByteArray} {v : Value} (h : VR w av μ (.str s) v) : v = .string s := by cases h with | fr h => cases h; rfl
theorem VR.i {k : IntKind} {n : Int} : VR w av μ (.int k n) (.int k n) := .fr (.int k n)
theorem VR.b {b : Bool} : VR w av μ (.bool b) (.bool b) := .fr (.bool b)
theorem VR.s {s : ByteArray} : VR w av μ (.str s) (.string s) := .fr (.str s)
theorem ofCell_sound (v : Value) (hf : flat v = true) : VR w av μ (ofCell v) v := by
  unfold ofCell
  split
  · exact .i
  · exact .b
  · exact .s
  · exact .fr (.sl [] true none 0 default 0 (fun _ _ => Go.undef) (Nat.le_refl _) (fun _ => rfl) (fun _ => rfl) (fun h => absurd rfl h) (by simp) (by simp) (by simp))
  · rename_i f first caps
    split
    · rename_i h
      have h1 : first = #[] := Array.eq_empty_of_size_eq_zero h.1
      have h2 : caps = #[] := Array.eq_empty_of_size_eq_zero h.2
      subst h1; subst h2
      exact .fr (.fn f)
    · exact .raw _
  · exact .raw _
theorem ofConst_sound (v : Value) : VR w av μ (ofConst v) v := by
  unfold ofConst
  split
  · rename_i cs
    split
    · rename_i h
      rw [List.all_eq_true] at h
      refine .agg _ _ (by simp) (fun j v hv => h v ?_) (fun j pv v hp hv => ?_)
      · rw [← Array.getElem?_toList] at hv; exact List.mem_of_getElem? hv
      · rw [← Array.getElem?_toList] at hv
        rw [List.getElem?_map, hv] at hp
        simp at hp
        subst hp
        exact ofCell_sound v (h v (List.mem_of_getElem? hv))
    · exact .raw _
  · rename_i h
    by_cases hf : flat v = true
    · exact ofCell_sound v hf
    · cases v with
      | agg cs => exact absurd rfl (h cs)
      | tuple vs => exact .raw _
      | _ => exact absurd rfl hf
def ER (w : World) (av : Nat → Prop) (μ : Mu) (e : Env) (tmps : Array Value) : Prop := ∀ t, VR w av μ (get e t) (tmps.getD t undef)
theorem ev_sound {e : Env} {a : Act} (h : ER w av μ e a.tmps) (x : Operand) : VR w av μ (ev e x) (a.eval x) := by
  cases x with
  | tmp t => exact h t
  | const v => exact ofConst_sound v
  | global g => exact .undef _
  | func f => exact .fr (.fn f)
theorem get_put (e : Env) (d : Nat) (v : PV) (t : Nat) : get (put e d v) t = if d = t then v else get e t := by
  induction e with
  | nil => simp [put, get]
  | cons x r ih =>
    obtain ⟨k, u⟩ := x
    simp only [put]
    by_cases hk : k = d
    · subst hk; simp only [if_true, get]; split <;> rfl
    · rw [if_neg hk]
      simp only [get, ih]
      by_cases h1 : k = t
      · subst h1; simp [Ne.symm hk]
      · simp [h1]
theorem ER.put {e : Env} {tmps : Array Value} (h : ER w av μ e tmps) {d : Nat} (hd : d < tmps.size) {pv : PV} {v : Value} (hv : VR w av μ pv v) : ER w av μ (put e d pv) (tmps.setIfInBounds d v) := by
  intro t
  rw [get_put]
  by_cases hdt : d = t
  · subst hdt; simp [hd]; exact hv
  · rw [if_neg hdt]
    have := h t
    simpa [Array.getElem?_setIfInBounds_ne hdt] using this
theorem ER.mono {w' : World} {av' : Nat → Prop} {μ' : Mu} {e : Env} {tmps : Array Value} (h : ER w av μ e tmps) (hk : Keeps w av w' av') (hμ : ∀ i b, μ i = some b → μ' i = some b) : ER w' av' μ' e tmps :=
  fun t => (h t).mono hk fun i _ b hb => hμ i b hb
theorem get_trim (keep : List Nat) (e : Env) (t : Nat) : get (trim keep e) t = get e t ∨ get (trim keep e) t = .undef := by
  induction keep with
  | nil => exact .inr rfl
  | cons k r ih =>
    show get ((k, get e k) :: trim r e) t = _ ∨ get ((k, get e k) :: trim r e) t = _
    simp only [get]
    split
    · rename_i h; subst h; exact .inl rfl
    · exact ih
theorem ER.trim {e : Env} {tmps : Array Value} (h : ER w av μ e tmps) (keep : List Nat) : ER w av μ (trim keep e) tmps := by
  intro t
  rcases get_trim keep e t with h1 | h1 <;> rw [h1]
  · exact h t
  · exact .undef _
theorem get_keepOnly (live : List Nat) (e : Env) (t : Nat) : get (keepOnly live e) t = get e t ∨ get (keepOnly live e) t = .undef := by
  induction e with
  | nil => exact .inl rfl
  | cons x r ih =>
    obtain ⟨k, u⟩ := x
    simp only [keepOnly, List.map_cons]
    by_cases hc : live.contains k = true
    · rw [if_pos hc]; simp only [get]
      split
      · exact .inl rfl
      · exact ih
    · rw [if_neg hc]; simp only [get]
      split
      · exact .inr rfl
      · exact ih
theorem ER.keepOnly {e : Env} {tmps : Array Value} (h : ER w av μ e tmps) (live : List Nat) : ER w av μ (keepOnly live e) tmps := by
  intro t
  rcases get_keepOnly live e t with h1 | h1 <;> rw [h1]
  · exact h t
  · exact .undef _
end
end Go.Vs
end
