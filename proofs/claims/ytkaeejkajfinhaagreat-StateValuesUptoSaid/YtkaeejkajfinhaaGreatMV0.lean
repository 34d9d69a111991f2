import Derived.LoopN
import Derived.Orders
import Derived.Tactics
import Derived.Laws.CopyRow
import Derived.Laws.Cells
import Derived.Laws.Slices
set_option linter.unusedVariables false
set_option linter.unusedSimpArgs false
section
namespace Go.Vs
abbrev hZ:=@if_neg
abbrev bA:=@if_pos
abbrev bB:=@Bool.false_and
abbrev bC:=@Bool.true_and
abbrev bD:=@Int.toNat_natCast
abbrev bE:=@IntKind.wrap_i64
abbrev bF:=@Nat.le_refl
abbrev bG:=@decide_eq_true
abbrev bH:=@decide_eq_false
abbrev bI:=@Option.bind_some
abbrev bJ:=@Bool.not_false
abbrev bK:=@List.length_cons
abbrev bL:=@List.getD_eq_getElem?_getD
abbrev bM:=@List.length_append
abbrev bN:=@Option.bind_eq_some_iff
abbrev bO:=@Bool.and_eq_true
abbrev bP:=@Nat.le_trans
abbrev bQ:=@Bool.and_false
abbrev bR:=@List.getElem?_eq_some_iff
abbrev bS:=@Bool.not_true
abbrev bT:=@List.drop_of_length_le
abbrev bU:=@List.length_nil
abbrev bV:=@Int.mul_add
abbrev bW:=@Bool.false_or
abbrev bX:=@List.drop_zero
abbrev bY:=@Bool.false_eq_true
abbrev bZ:=@List.getElem?_append_right
abbrev pA:=@decide_eq_true_eq
abbrev pB:=@List.append_assoc
abbrev pC:=@Nat.zero_add
abbrev pD:=@Bool.and_true
abbrev pE:=@Option.map_some
abbrev pF:=@List.mem_of_getElem?
abbrev pG:=@List.nil_append
abbrev pH:=@List.all_eq_true
abbrev pI:=@Bool.true_or
abbrev pJ:=@Bool.or_false
abbrev pK:=@Int.mul_comm
abbrev pL:=@List.eq_nil_of_length_eq_zero
abbrev pM:=@Int.mul_assoc
abbrev pN:=@List.isEmpty_nil
abbrev pO:=@Sem.run_bind
abbrev pP:=@List.getElem?_eq_getElem
abbrev pQ:=@Array.getElem?_eq_getElem
abbrev pR:=@IntKind.wrap_u32
abbrev pS:=@Nat.mul_le_mul_right
abbrev pU:=@List.append_nil
abbrev pV:=@Result.andThen_ok
abbrev pW:=@Nat.add_mul
abbrev pX:=@List.cons_append
abbrev pY:=@List.getElem?_map
abbrev pZ:=@List.map_cons
abbrev sA:=@List.getElem?_eq_none
abbrev sB:=@List.mem_append
abbrev sC:=@Bool.and_self
abbrev sD:=@Int.toNat_zero
abbrev sE:=@Array.getElem?_toList
abbrev sG:=@List.getElem?_append_left
abbrev sH:=@Int.mul_le_mul_of_nonneg_left
abbrev sI:=@List.length_take
abbrev sJ:=@Nat.zero_le
abbrev sK:=@Sem.run_pure
abbrev sL:=@Int.natCast_mul
abbrev sM:=@Bool.or_true
abbrev sN:=@Array.getElem?_eq_some_iff
abbrev sO:=@Bool.or_self
abbrev sP:=@Int.pow_succ
abbrev sQ:=@Nat.sub_self
abbrev sR:=@List.getElem?_take_of_lt
abbrev sS:=@List.set_append
abbrev sU:=@Int.mul_le_mul_of_nonneg_right
abbrev sW:=@List.mem_cons
abbrev sX:=@List.set_cons_zero
abbrev sY:=@Int.mul_nonneg
abbrev aA:=@Int.ediv_nonneg
abbrev aB:=@List.isEmpty_cons
abbrev aC:=@List.getElem?_drop
abbrev aD:=@List.getElem?_set_ne
abbrev aE:=@List.length_singleton
abbrev aF:=@Nat.add_sub_cancel_left
abbrev aG:=@Array.length_toList
abbrev aH:=@Nat.mod_eq_of_lt
abbrev aI:=@Int.emod_lt_of_pos
abbrev aJ:=@Int.tdiv_eq_ediv_of_nonneg
abbrev aK:=@Nat.add_zero
abbrev aL:=@List.mem_map
abbrev aM:=@Nat.mod_lt
abbrev aN:=@List.take_of_length_le
abbrev aO:=@Array.getD_eq_getD_getElem?
abbrev aP:=@List.length_set
abbrev aQ:=@Int.mul_ediv_add_emod
abbrev aR:=@Int.tmod_eq_emod_of_nonneg
abbrev aT:=@Int.le_of_lt
abbrev aU:=@Nat.lt_of_lt_of_le
abbrev aV:=@Bool.or_eq_true
abbrev aW:=@List.getElem?_take
abbrev aX:=@Option.map_none
abbrev aY:=@Nat.pow_pos
abbrev aZ:=@List.replicate_succ
abbrev HA:=@Nat.gcd_comm
abbrev HB:=@List.getElem?_of_mem
abbrev HC:=@of_decide_eq_true
abbrev HD:=@Nat.pow_add
abbrev HE:=@Int.mul_zero
abbrev HF:=@Int.emod_nonneg
abbrev HG:=@Nat.add_assoc
abbrev HH:=@Nat.mul_comm
abbrev HI:=@Nat.div_eq_of_lt
abbrev HJ:=@List.take_append_drop
abbrev HK:=@Int.le_refl
abbrev HL:=@List.drop_length
abbrev HM:=@Int.pow_pos
abbrev HN:=@List.mem_of_mem_take
abbrev HO:=@List.getElem?_set
abbrev HP:=@List.all_cons
abbrev HQ:=@List.map_nil
abbrev HR:=@Option.bind_none
abbrev HS:=@List.replicate_zero
abbrev HT:=@Int.add_mul
abbrev HU:=@List.length_drop
abbrev HV:=@Int.sub_mul
abbrev HW:=@List.getElem?_toArray
abbrev HX:=@List.getElem?_range
abbrev HY:=@Nat.lt_or_ge
abbrev HZ:=@Bool.not_eq_true'
abbrev BA:=@List.any_cons
abbrev BB:=@Int.mul_left_comm
abbrev BC:=@Int.natCast_pow
abbrev BD:=@Nat.div_le_self
abbrev BE:=@Option.getD_some
abbrev BF:=@List.flatMap_cons
abbrev BG:=@List.getElem?_set_self
abbrev BH:=@List.all_nil
abbrev BI:=@Int.natCast_add
abbrev BJ:=@List.take_add_one
abbrev BK:=@Nat.pow_mul
abbrev BL:=@List.length_eq_one_iff
abbrev BM:=@Int.one_mul
abbrev BN:=@List.mem_of_mem_drop
abbrev BO:=@List.mem_flatMap
abbrev BP:=@List.length_map
abbrev BQ:=@List.any_nil
abbrev BR:=@List.getD_cons_zero
abbrev BS:=@Int.fdiv_eq_ediv_of_nonneg
abbrev BT:=@List.length_pos_iff
abbrev BU:=@List.eq_of_mem_replicate
abbrev BV:=@Int.ediv_lt_iff_lt_mul
abbrev BW:=@Int.zero_add
abbrev BX:=@Nat.le_of_dvd
abbrev BY:=@List.set_append_right
abbrev BZ:=@List.size_toArray
abbrev PA:=@Nat.div_lt_iff_lt_mul
abbrev PB:=@List.getElem?_cons_succ
abbrev PC:=@Nat.lt_succ_self
abbrev PD:=@Nat.lt_or_eq_of_le
abbrev PE:=@List.getElem_mem
abbrev PF:=@List.tail_drop
abbrev PG:=@Int.add_assoc
abbrev PH:=@Int.add_zero
abbrev PI:=@BitVec.ofInt_natCast
abbrev PJ:=@BitVec.toNat_ofNat
abbrev PK:=@List.drop_eq_getElem_cons
abbrev PL:=@Int.ediv_le_self
abbrev PM:=@Nat.gcd_zero_right
abbrev PN:=@Nat.div_one
abbrev PO:=@Nat.mul_ne_zero
abbrev PP:=@Array.eq_empty_of_size_eq_zero
abbrev PQ:=@List.contains_eq_mem
abbrev PR:=@List.ext_getElem?
abbrev PS:=@Nat.div_add_mod
abbrev PT:=@List.mem_range
abbrev PU:=@Bool.or_eq_false_iff
abbrev PW:=@List.contains_iff_mem
abbrev PX:=@List.take_length
abbrev PY:=@Nat.div_lt_self
abbrev PZ:=@Nat.mul_le_mul_left
abbrev SA:=@List.replicate_succ'
abbrev SB:=@IntKind.wrap_u8
abbrev SC:=@Nat.pow_le_pow_right
abbrev SD:=@Int.emod_eq_of_lt
abbrev SE:=@List.drop_eq_nil_of_le
abbrev SF:=@Nat.gcd_dvd_right
abbrev SG:=@List.mem_append_right
abbrev SH:=@Array.getElem?_extract
abbrev SI:=@List.length_replicate
abbrev SJ:=@Array.getElem?_append_left
abbrev SK:=@List.mem_append_left
abbrev SL:=@List.getElem?_cons_zero
abbrev SM:=@List.length_range
abbrev SN:=@Classical.choose_spec
abbrev SO:=@List.take_succ_cons
abbrev SP:=@List.length_tail
abbrev SQ:=@Int.add_mul_ediv_left
abbrev SS:=@List.not_mem_nil
abbrev ST:=@Int.natCast_zero
abbrev SU:=@List.mem_singleton
abbrev SV:=@List.length_eq_zero_iff
abbrev SW:=@List.replicate_append_replicate
abbrev SX:=@Nat.eq_zero_of_gcd_eq_zero_right
open Go
inductive PV where
 | undef
 | skip
 | int (k:IntKind) (n:Int)
 | bool (b:Bool)
 | str (s:ByteArray)
 | raw (v:Value)
 | sl (rows:List (List PV)) (ex:Bool)
 | cp (row:List PV)
 | msl (id off len:Nat) (ex:Bool)
 | mp (id i off:Nat)
 | agg (cells:List PV)
 | tup (vs:List PV)
 | fn (f:FuncId) (first caps:List PV)
 deriving Inhabited
inductive Obj where
 | arr (rows:List (List PV)) (grow:Option (Option Nat)) (fz:Bool)
 | gone
 deriving Inhabited
abbrev zB:=List Obj
abbrev Env:=List (Nat × PV)
def get:Env→Nat→PV
 | [],_=>.undef
 | (k,v)::r,t=>if k=t then v else get r t
def put:Env→Nat→PV→Env
 | [],t,v=>[(t,v)]
 | (k,u)::r,t,v=>if k=t then (t,v)::r else (k,u)::put r t v
def putD (e:Env) (d:Option Nat) (v:PV):Env:=match d with | some t=>put e t v | none=>e
def trim (keep:List Nat) (e:Env):Env:=keep.map fun t=>(t,get e t)
def PV.cells:PV→List PV
 | .agg cs=>cs
 | v=>[v]
def flat:Value→Bool
 | .agg _ | .tuple _=>false
 | _=>true
def PV.cell:PV→Bool
 | .agg _ | .tup _ | .undef | .skip=>false
 | .raw v=>flat v
 | _=>true
mutual
def PV.refs:PV→List Nat
 | .agg cs=>vK cs
 | .tup vs=>vK vs
 | .fn _ a b=>vK a++vK b
 | .msl id _ _ _=>[id]
 | .mp id _ _=>[id]
 | _=>[]
def vK:List PV→List Nat
 | []=>[]
 | v::r=>v.refs++vK r
end
def zT (rows:List (List PV)):List Nat:=rows.flatMap vK
inductive TD where
 | int (k:IntKind) | bool | str | slice (e:TypeId) | struct (fs:List (Nat × Nat × Bool)) | array (n:Nat) (e:TypeId) | ptr (e:TypeId) | other
structure TI where
 d:TD
 size:Nat
 bytes:Nat
 zero:Option (List PV)
 known:Bool:=true
def zAI:Value→PV
 | .int k n=>.int k n
 | .bool b=>.bool b
 | .string s=>.str s
 | .slice none 0 0=>.sl [] true
 | .func (.func f) first caps=>if first.size=0∧caps.size=0 then .fn f [] [] else .raw (.func (.func f) first caps)
 | v=>.raw v
def jk:Value→PV
 | .agg cs=>if cs.toList.all flat then .agg (cs.toList.map zAI) else .raw (.agg cs)
 | v=>zAI v
def Zi (P:Program) (t:TypeId):Bool :=
 match P.underlying t with
 | some (.struct _) | some (.array _ _)=>true
 | _=>false
def WK (P:Program) (t:TypeId):Nat:=if (P.underlying t).isSome then P.cellsOf t else 0
def tyi (P:Program) (t:TypeId):TI :=
 {d:=match P.underlying t with
   | some (.int k)=>.int k
   | some .bool=>.bool
   | some .string=>.str
   | some (.slice e)=>.slice e
   | some (.struct fs)=>.struct (fs.toList.map fun f=>(f.offset,WK P f.type,Zi P f.type))
   | some (.array n e)=>.array n e
   | some (.pointer e)=>.ptr e
   | _=>.other
  size:=P.cellsOf t
  bytes:=P.bytesOf t
  zero:=((P.info? t).bind (·.zero)).map fun v=>(jk v).cells
  known:=(P.underlying t).isSome}
def TI.isAgg (t:TI):Bool :=
 match t.d with
 | .struct _ | .array _ _=>true
 | _=>false
def xp (ti:TI):TypeId :=
 match ti.d with
 | .slice e=>e
 | _=>0
def ui (ti:TI):Bool :=
 match ti.d with
 | .slice _=>true
 | _=>false
def ev (e:Env):Operand→PV
 | .tmp t=>get e t
 | .const v=>jk v
 | .global _=>.undef
 | .func f=>.fn f [] []
def yM (n:Nat) (rows:List (List PV)):Bool:=rows.all fun r=>r.length == n
def zj (S:zB) (id:Nat):Option (List (List PV)) :=
 match S[id]? with
 | some (.arr rows _ _)=>some rows
 | _=>none
def part (ti:TI) (row:List PV):Option PV :=
 if ti.known=false then none else
 if ti.isAgg then (if ti.size≤row.length then some (.agg (row.take ti.size)) else none) else row.head?
def za (ti:TI) (S:zB):PV→Option PV
 | .cp row=>part ti row
 | .mp id i off=>(zj S id).bind fun rows=>if i<rows.length then part ti ((rows.getD i []).drop off) else none
 | _=>none
def vr (sz:Nat) (S:zB):PV→PV→Option PV
 | .sl rows _,.int _ n=>if 0≤n∧n<rows.length then (if (rows.getD n.toNat []).length=sz then some (.cp (rows.getD n.toNat [])) else none) else none
 | .msl id off len _,.int _ n=>if 0≤n∧n<len then (zj S id).bind fun rows=>(if yM sz rows∧off+len≤rows.length then some (.mp id (off+n.toNat) 0) else none) else none
 | _,_=>none
def zA (ti:TI) (f:Nat):PV→Option PV
 | .cp row=>match ti.d with
  | .struct fs=>match fs[f]? with
   | some (o,n,_)=>if n=0 then none else some (.cp (row.drop o))
   | none=>none
  | _=>none
 | .mp id i off=>match ti.d with
  | .struct fs=>match fs[f]? with
   | some (o,n,_)=>if n=0 then none else some (.mp id i (off+o))
   | none=>none
  | _=>none
 | _=>none
def zK (ti:TI) (f:Nat):PV→Option PV
 | .agg cs=>match ti.d with
  | .struct fs=>match fs[f]? with
   | some (o,n,g)=>if n=0 then none else if g then (if o+n≤cs.length then some (.agg ((cs.drop o).take n)) else none) else cs[o]?
   | none=>none
  | _=>none
 | _=>none
def ww (d:Nat):Option PV→Option Nat
 | none=>some d
 | some (.int _ n)=>if 0≤n then some n.toNat else none
 | some _=>none
def kb (ti:TI) (esz:Nat) (S:zB) (x:PV) (lo hi mx:Option PV):Option PV :=
 match ti.d,x with
 | .str,.str s=>match mx with
  | none=>(ww 0 lo).bind fun l=>(ww s.size hi).bind fun h=>if l≤h∧h≤s.size then some (.str (s.extract l h)) else none
  | some _=>none
 | .slice _,.sl rows ex=>(ww 0 lo).bind fun l=>(ww rows.length hi).bind fun h=>(ww h mx).bind fun m =>
   if l≤h∧h≤rows.length∧m=h∧yM esz rows∧(mx.isNone||hi.isSome) then some (.sl ((rows.take h).drop l) (mx.isSome||(ex&&hi.isNone))) else none
 | .slice _,.msl id off len ex=>(zj S id).bind fun rows=>(ww 0 lo).bind fun l=>(ww len hi).bind fun h=>(ww h mx).bind fun m =>
   if l≤h∧h≤len∧m=h∧yM esz rows∧off+len≤rows.length∧(mx.isNone||hi.isSome) then some (.msl id (off+l) (h-l) (mx.isSome||(ex&&hi.isNone))) else none
 | _,_=>none
def kI (ti:TI) (esz:Nat) (eagg:Bool):PV→PV→Option PV
 | .str s,.int _ n=>match ti.d with
  | .str=>if 0≤n∧n<s.size then some (.int .u8 (s.data.toList.getD n.toNat 0).toNat) else none
  | _=>none
 | .agg cs,.int _ n=>match ti.d with
  | .array len _=>if 0≤n∧n<len then (if eagg then (if (n.toNat+1)*esz≤cs.length then some (.agg ((cs.drop (n.toNat*esz)).take esz)) else none) else cs[n.toNat*esz]?) else none
  | _=>none
 | _,_=>none
def jt (op:BinOp) (k:IntKind) (a b:Int):Option PV :=
 match op with
 | .add=>some (.int k (k.wrap (a+b)))
 | .sub=>some (.int k (k.wrap (a-b)))
 | .mul=>some (.int k (k.wrap (a*b)))
 | .quo=>if b=0 then none else some (.int k (k.wrap (a.tdiv b)))
 | .rem=>if b=0 then none else some (.int k (a.tmod b))
 | .and=>some (.int k (k.wrap (BitVec.ofInt k.bits a &&& BitVec.ofInt k.bits b).toNat))
 | .or=>some (.int k (k.wrap (BitVec.ofInt k.bits a ||| BitVec.ofInt k.bits b).toNat))
 | .xor=>some (.int k (k.wrap (BitVec.ofInt k.bits a ^^^ BitVec.ofInt k.bits b).toNat))
 | .andNot=>some (.int k (k.wrap (BitVec.ofInt k.bits a &&& ~~~(BitVec.ofInt k.bits b)).toNat))
 | .eql=>some (.bool (decide (a=b)))
 | .neq=>some (.bool (!decide (a=b)))
 | .lss=>some (.bool (decide (a<b)))
 | .leq=>some (.bool (decide (a≤b)))
 | .gtr=>some (.bool (decide (a > b)))
 | .geq=>some (.bool (decide (a ≥ b)))
 | _=>none
def WL (op:BinOp) (k:IntKind) (a b:Int):Option PV :=
 if b<0 then none else
 match op with
 | .shl=>some (.int k (k.wrap (a*2^min b.toNat k.bits)))
 | .shr=>some (.int k (a.fdiv (2^min b.toNat k.bits)))
 | _=>none
def zJ0 (op:BinOp) (x y:ByteArray):Option PV :=
 match op with
 | .add=>if x.size+y.size≤9223372036854775807 then some (.str (x++y)) else none
 | .eql=>some (.bool (x.toList == y.toList))
 | .neq=>some (.bool (!(x.toList == y.toList)))
 | .lss=>some (.bool (Op.bytesLess x.toList y.toList))
 | .leq=>some (.bool (Op.bytesLess x.toList y.toList||x.toList == y.toList))
 | .gtr=>some (.bool (!(Op.bytesLess x.toList y.toList||x.toList == y.toList)))
 | .geq=>some (.bool (!(Op.bytesLess x.toList y.toList)))
 | _=>none
def xN (op:BinOp) (ti:TI) (x y:PV):Option PV :=
 match x,y with
 | .int k a,.int k' b=>match op with
  | .shl | .shr=>WL op k a b
  | _=>if k=k' then jt op k a b else none
 | .bool a,.bool b=>match ti.d with
  | .bool=>(match op with
   | .eql=>some (.bool (a == b))
   | .neq=>some (.bool (!(a == b)))
   | _=>none)
  | _=>none
 | .str a,.str b=>zJ0 op a b
 | _,_=>none
def zAJ (op:BinOp):Option PV :=
 match op with
 | .eql=>some (.bool false)
 | .neq=>some (.bool true)
 | _=>none
def U0 (op:BinOp) (d:TD) (y:Operand):Option PV :=
 match d,y with
 | .slice _,.const (.slice none 0 0)=>zAJ op
 | _,_=>none
def zJ1 (op:BinOp) (ti:TI) (y:Operand):PV→Option PV
 | .sl (_::_) _=>U0 op ti.d y
 | .msl _ _ (_+1) _=>U0 op ti.d y
 | _=>none
def qU (op:BinOp) (ti:TI) (yo:Operand) (x y:PV):Option PV :=
 match zJ1 op ti yo x with
 | some v=>some v
 | none=>xN op ti x y
def zEg (op:UnOp):PV→Option PV
 | .int k n=>match op with
  | .neg=>some (.int k (k.wrap (0-n)))
  | .xor=>some (.int k (k.wrap (BitVec.ofInt k.bits (if k.signed then -1 else k.max) ^^^ BitVec.ofInt k.bits n).toNat))
  | _=>none
 | .bool b=>match op with
  | .not=>some (.bool (!b))
  | _=>none
 | _=>none
def bytesOf:List (List PV)→Option (List UInt8)
 | []=>some []
 | [.int .u8 n]::r=>(bytesOf r).map fun l=>UInt8.ofNat n.toNat::l
 | _=>none
def qh (s:ByteArray):List (List PV):=s.data.toList.map fun b=>[.int .u8 b.toNat]
def VO:TD→Bool
 | .slice _=>true
 | .str=>true
 | _=>false
def Uc (ti:TI):PV→Option PV
 | .str s=>match ti.d with | .str=>some (.int .i64 s.size) | _=>none
 | .sl rows _=>match ti.d with | .slice _=>some (.int .i64 rows.length) | _=>none
 | .msl _ _ len _=>match ti.d with | .slice _=>some (.int .i64 len) | _=>none
 | _=>none
structure Out where
 v:PV
 new:Option (List (List PV) × Option (Option Nat)):=none
 fz:List Nat:=[]
def rowsIn (S:zB):PV→Option (List (List PV))
 | .sl rows _=>some rows
 | .msl id off len _=>(zj S id).bind fun rows=>if off+len≤rows.length then some ((rows.drop off).take len) else none
 | _=>none
def rowsS (S:zB):PV→Option (List (List PV))
 | .str s=>some (qh s)
 | y=>rowsIn S y
def zHm (ti:TI):Bool :=
 match ti.d with
 | .int .u8=>true
 | _=>false
def xL (src dst:TI) (u8:Bool) (S:zB):PV→Option PV
 | .int _ n=>match dst.d with
  | .int k=>some (.int k (k.wrap n))
  | _=>none
 | .str s=>match dst.d with
  | .str=>some (.str s)
  | _=>none
 | y=>match src.d,dst.d,u8 with
  | .slice _,.str,true=>(rowsIn S y).bind fun rows=>(bytesOf rows).map fun l=>.str ⟨l.toArray⟩
  | _,_,_=>none
def qB (ti:TI):Bool :=
 match ti.zero with
 | some z=>z.length == ti.size&&z.all PV.cell
 | none=>false
def xY {α β:Type} (f:α→Option β):List α→Option (List β)
 | []=>some []
 | a::r=>(f a).bind fun b=>(xY f r).map fun l=>b::l
def wx (S:zB):Nat→PV→Option PV
 | 0,_=>none
 | d+1,v =>
  match v with
  | .int .. | .bool _ | .str _ | .cp _=>some v
  | .raw u=>if flat u then some (.raw u) else none
  | .sl rows _=>some (.sl rows false)
  | .msl id off len _=>(rowsIn S (.msl id off len false)).bind fun rows=>(xY (xY (wx S d)) rows).map fun rows=>.sl rows false
  | .mp id i off=>(zj S id).bind fun rows=>if i<rows.length then (xY (wx S d) ((rows.getD i []).drop off)).map .cp else none
  | .fn f [] []=>some (.fn f [] [])
  | _=>none
def uC (S:zB):PV→Option PV
 | .agg cs=>(xY (wx S 8) cs).map .agg
 | .sl [] true=>some (.sl [] true)
 | v=>wx S 8 v
def wy (S:zB):PV→Option PV
 | .tup vs=>(xY (uC S) vs).map .tup
 | v=>uC S v
def wO (S:zB):Nat→List Nat→List Nat
 | 0,ids=>ids
 | d+1,ids=>ids++wO S d (ids.flatMap fun id=>match zj S id with | some rows=>zT rows | none=>[])
def kJ (S:zB) (id:Nat):zB :=
 match S[id]? with
 | some (.arr rows g _)=>S.set id (.arr rows g true)
 | _=>S
def zH (S:zB) (ids:List Nat):zB:=ids.foldl kJ S
def uP (S:zB):Option (List (List PV) × Option (Option Nat))→zB
 | some (rows,g)=>S++[.arr rows g false]
 | none=>S
abbrev YL:=FuncId→List PV→Option PV
abbrev zJ2:=FuncId→List PV→zB→Option (PV × zB)
def zn (S:zB) (nid:Nat) (n:Nat) (v:PV):Option Out :=
 if v.cells.length=n∧v.cells.all PV.cell then some {v:=.mp nid 0 0,new:=some ([v.cells],none)} else none
def exact:PV→Bool
 | .sl _ ex=>ex
 | .msl _ _ _ ex=>ex
 | _=>false
def wI (ti esz:Nat) (S:zB) (nid:Nat) (x y:PV):Option Out :=
 if exact x=true then (rowsIn S x).bind fun rows=>(rowsS S y).bind fun new =>
   if yM esz rows∧yM esz new∧(rows.length+new.length)*ti≤140737488355328∧rows.length+new.length≤9223372036854775807 then
    (if new.length=0 then (if rows.length=0 then some {v:=.msl nid 0 0 false,new:=some ([],some (some esz))} else some {v:=x})
     else some {v:=.msl nid 0 (rows.length+new.length) false,new:=some (rows++new,some (some esz))})
   else none
 else none
def vv (fs:List (Nat × Nat × Bool)) (ρ : Operand→PV):List PV→List (Nat × Operand)→Option (List PV)
 | cs,[]=>some cs
 | cs,(i,x)::r=>match fs[i]? with
  | some (o,n,_)=>if (ρ x).cells.length=n∧(ρ x).cells.all PV.cell∧o+n≤cs.length then vv fs ρ (cs.take o++(ρ x).cells++cs.drop (o+n)) r else none
  | none=>none
def zCD (k n:Nat):List (Nat × Nat × Bool):=(List.range n).map fun i=>(i*k,k,false)
def ev1 (P:Program) (cp:YL) (o:Oper) (e:Env) (S:zB) (nid:Nat):Option Out :=
 match o.op with
 | .move x | .assign x=>some {v:=ev e x}
 | .pick c a b=>match ev e c with
  | .bool t=>some {v:=if t then ev e a else ev e b}
  | _=>none
 | .alloc t=>(tyi P t).zero.bind fun z=>if z.all PV.cell then some {v:=.mp nid 0 0,new:=some ([z],none)} else none
 | .box t x=>zn S nid (tyi P t).size (ev e x)
 | .build t parts=>match (tyi P t).d with
  | .struct fs=>(tyi P t).zero.bind fun z=>if z.all PV.cell∧(fs.all fun x=>decide (x.2.1≠0)) then (vv fs (ev e) z parts.toList).map fun cs => {v:=.agg cs} else none
  | .array n el=>(tyi P t).zero.bind fun z=>if z.all PV.cell∧(tyi P el).known=true then (vv (zCD (tyi P el).size n) (ev e) z parts.toList).map fun cs => {v:=.agg cs} else none
  | _=>none
 | .buildSlice t len parts=>match (tyi P t).d with
  | .slice el =>
   let rows:=parts.toList.map fun (_,x)=>(ev e x).cells
   if parts.toList.map (·.1)=List.range len∧yM (tyi P el).size rows∧(rows.all fun r=>r.all PV.cell)∧len*(tyi P el).size≤16777216∧0<(tyi P el).size∧(tyi P el).zero.isSome then
    some {v:=.msl nid 0 len true,new:=some (rows,some (some (tyi P el).size))} else none
  | _=>none
 | .load t a=>(za (tyi P t) S (ev e a)).map fun v => {v}
 | .nilCheck x=>match ev e x with
  | .mp a b c=>some {v:=.mp a b c}
  | .cp r=>some {v:=.cp r}
  | .fn f a b=>some {v:=.fn f a b}
  | _=>none
 | .binOp op t x y _=>(qU op (tyi P t) y (ev e x) (ev e y)).map fun v => {v}
 | .unOp op _ x=>(zEg op (ev e x)).map fun v => {v}
 | .convert s d x=>if (tyi P s).known then (xL (tyi P s) (tyi P d) (zHm (tyi P (xp (tyi P s)))) S (ev e x)).map fun v => {v} else none
 | .makeFunc (.func f) first caps=>some {v:=.fn f (first.toList.map (ev e)) (caps.toList.map (ev e))}
 | .makeSlice t l c=>match (tyi P t).d,ev e l,ev e c with
  | .slice el,.int _ n,.int _ m=>(tyi P el).zero.bind fun z =>
   if 0≤n∧n≤m∧(tyi P el).bytes*m≤281474976710656∧m≤9223372036854775807∧z.length=(tyi P el).size∧z.all PV.cell then
    some {v:=.msl nid 0 n.toNat (decide (n=m)),new:=some (List.replicate n.toNat z,some (some (tyi P el).size))} else none
  | _,_,_=>none
 | .slice t x lo hi mx=>if ui (tyi P t)=true∧(tyi P (xp (tyi P t))).known=false then none else (kb (tyi P t) (tyi P (xp (tyi P t))).size S (ev e x) (lo.map (ev e)) (hi.map (ev e)) (mx.map (ev e))).map fun v => {v}
 | .fieldAddr t x f=>(zA (tyi P t) f (ev e x)).map fun v => {v}
 | .field t x f=>(zK (tyi P t) f (ev e x)).map fun v => {v}
 | .indexAddr t x i=>if ui (tyi P t)=true∧(tyi P (xp (tyi P t))).known=true then (vr (tyi P (xp (tyi P t))).size S (ev e x) (ev e i)).map fun v => {v} else none
 | .index t x i=>match (tyi P t).d with
  | .array n el=>if (tyi P el).known then (kI {d:=.array n el,size:=(tyi P t).size,bytes:=0,zero:=none} (tyi P el).size (tyi P el).isAgg (ev e x) (ev e i)).map fun v => {v} else none
  | .str=>(kI {d:=.str,size:=0,bytes:=0,zero:=none} 0 false (ev e x) (ev e i)).map fun v => {v}
  | _=>none
 | .extract x i=>match ev e x with
  | .tup vs=>(vs[i]?).map fun v => {v}
  | _=>none
 | .call c=>match c.callee with
  | .builtin .len=>match c.argTypes[0]?,c.args[0]? with
   | some t,some x=>(Uc (tyi P t) (ev e x)).map fun v => {v}
   | _,_=>none
  | .builtin .max=>match c.args.toList.map (ev e) with
   | [.int k a,.int _ b]=>some {v:=.int k (if b > a then b else a)}
   | _=>none
  | .builtin .min=>match c.args.toList.map (ev e) with
   | [.int k a,.int _ b]=>some {v:=.int k (if b<a then b else a)}
   | _=>none
  | .builtin .append=>match c.argTypes[0]?,c.argTypes[1]?,c.args.toList with
   | some t,some u,[x,y]=>match (tyi P t).d with
    | .slice el=>if VO (tyi P u).d=true∧qB (tyi P el)=true then wI (tyi P el).bytes (tyi P el).size S nid (ev e x) (ev e y) else none
    | _=>none
   | _,_,_=>none
  | .value f=>match ev e f with
   | .fn f first caps=>if (wO S 8 ((first++c.args.toList.map (ev e)++caps).flatMap PV.refs)).all (fun i=>decide (i<S.length)) then
     (xY (wy S) (first++c.args.toList.map (ev e)++caps)).bind fun args=>(cp f args).map fun v =>
     {v,fz:=wO S 8 ((first++c.args.toList.map (ev e)++caps).flatMap PV.refs)} else none
   | _=>none
  | _=>none
 | _=>none
structure LoopHint where
 live:List Nat
 after:List Nat
 own:List Nat:=[]
 fz:List Nat:=[]
structure Hint where
 keep:List Nat
 loops:List (Nat × LoopHint):=[]
 regs:List (Nat × List Nat):=[]
def Hint.at (h:Hint) (id:Nat):List Nat:=(h.regs.lookup id).getD h.keep
structure Hints where
 refs:FuncId→Bool
 of:FuncId→Hint
 reads:FuncId→Bool:=fun _=>false
 orc:FuncId→Option (List PV→Option PV):=fun _=>none
def zNv (args:List PV):Bool:=args.all fun a=>a.refs.isEmpty
structure Ctx where
 P:Program
 H:Hints
 cp:YL
 cr:zJ2
 base:Nat
 h:Hint
structure Eff where
 v:PV
 S:zB
 kill:List Nat:=[]
def xj (H:Hints) (o:Oper) (e:Env):Bool :=
 match o.op with
 | .store .. => true
 | .call c=>match c.callee with
  | .builtin .append=>match c.args[0]? with | some x => !exact (ev e x) | none=>true
  | .builtin .copy=>true
  | .value (.func f)=>H.refs f
  | .value _=>true
  | _=>false
 | _=>false
def kN (row:List PV) (off:Nat) (cs:List PV):List PV :=
 if off=0∧cs.length=row.length then cs else row.take off++cs++row.drop (off+cs.length)
def yV (n:Nat) (S:zB) (a v:PV):Option zB :=
 match a with
 | .mp id i off=>match S[id]? with
  | some (.arr rows g false) =>
   if i<rows.length∧off+n≤(rows.getD i []).length∧v.cells.length=n∧v.cells.all PV.cell then some (S.set id (.arr (rows.set i (kN (rows.getD i []) off v.cells)) g false)) else none
  | _=>none
 | _=>none
def wS (ids:List Nat) (v:PV):PV:=if v.refs.any fun i=>ids.contains i then .undef else v
def qj (ids:List Nat) (e:Env):Env:=if ids=[] then e else e.map fun (t,v)=>(t,wS ids v)
def vL (ids:List Nat) (rows:List (List PV)):List (List PV):=if (zT rows).any fun i=>ids.contains i then rows.map fun r=>r.map (wS ids) else rows
def yr (ids:List Nat):Obj→Obj
 | .arr rows g f=>.arr (vL ids rows) g f
 | .gone=>.gone
def jP (base bytes esz:Nat) (S:zB) (x y:PV):Option Eff :=
 match x with
 | .msl id 0 len _=>match S[id]? with
  | some (.arr rows (some g) false)=>(rowsS S y).bind fun new =>
   if base≤id∧len=rows.length∧(g=none∨g=some esz)∧yM esz rows∧yM esz new∧(rows.length+new.length)*bytes≤140737488355328∧rows.length+new.length≤9223372036854775807∧((zT rows++zT new).contains id)=false then
    some {v:=.msl id 0 (rows.length+new.length) false,S:=(S.map (yr [id])).set id (.arr (rows++new) (some (some esz)) false),kill:=[id]} else none
  | _=>none
 | _=>none
def uj (id:Nat) (S:zB) (r:Eff):Eff :=
 {v:=(match r.v with | .msl _ o l ex=>.msl S.length o l ex | v=>v),S:=(r.S.set id .gone)++[r.S.getD id .gone],kill:=r.kill}
def uw (base bytes esz:Nat) (S:zB) (x y:PV):Option Eff :=
 match x with
 | .msl id _ _ _=>if base≤id then jP base bytes esz S x y else (jP 0 bytes esz S x y).map (uj id S)
 | _=>none
def YZ (esz:Nat) (S:zB) (x y:PV):Option Eff :=
 match x with
 | .msl id off len _=>match S[id]? with
  | some (.arr rows g false)=>(rowsIn S y).bind fun src =>
   if off+len≤rows.length∧yM esz rows∧yM esz src then
    some {v:=.int .i64 (min src.length len:Nat),S:=S.set id (.arr (rows.take off++src.take len++rows.drop (off+min src.length len)) g false)} else none
  | _=>none
 | _=>none
def wU (n:Nat) (vs:List PV):Bool:=(vK vs).all fun i=>decide (i<n)
def xS (S:zB):Bool:=S.all fun | .arr rows _ _=>(zT rows).all (fun i=>decide (i<S.length)) | .gone=>true
def zCE (b:Bool) (S S':zB):Prop:=b=true→S'.take S.length=S
noncomputable instance (b:Bool) (S S':zB):Decidable (zCE b S S'):=if h:b=true then Classical.propDecidable _ else .isTrue fun h'=>absurd h' h
noncomputable def ev2 (C:Ctx) (o:Oper) (e:Env) (S:zB):Option Eff :=
 match o.op with
 | .store t a v=>if (tyi C.P t).known then (yV (tyi C.P t).size S (ev e a) (ev e v)).map fun S => {v:=.skip,S} else none
 | .call c=>match c.callee with
  | .builtin .append=>match c.argTypes[0]?,c.argTypes[1]?,c.args.toList with
   | some t,some u,[x,y]=>match (tyi C.P t).d with
    | .slice el=>if VO (tyi C.P u).d=true∧qB (tyi C.P el)=true then uw C.base (tyi C.P el).bytes (tyi C.P el).size S (ev e x) (ev e y) else none
    | _=>none
   | _,_,_=>none
  | .builtin .copy=>match c.argTypes[0]?,c.argTypes[1]?,c.args.toList with
   | some t,some u,[x,y]=>match (tyi C.P t).d,(tyi C.P u).d with
    | .slice el,.slice _=>if (tyi C.P el).known then YZ (tyi C.P el).size S (ev e x) (ev e y) else none
    | _,_=>none
   | _,_,_=>none
  | .value f=>match ev e f with
   | .fn f first caps =>
    let aS:=first++c.args.toList.map (ev e)++caps
    if C.H.refs f then (C.cr f aS S).bind fun (v,S')=>if S.length≤S'.length∧xS S=true∧wU S.length aS=true∧zCE (C.H.reads f) S S' then some {v,S:=S'} else none
    else (xY (wy S) aS).bind fun args=>(C.cp f args).map fun v => {v,S:=zH S (wO S 8 (aS.flatMap PV.refs))}
   | _=>none
  | _=>none
 | _=>none
def wV (ops:Array Oper) (e:Env) (o:Oper):Option Bool :=
 match o.guard with
 | none=>some true
 | some (j,want)=>match (ops[j]?).bind (·.dst) with
  | some t=>match get e t with
   | .bool b=>some (b == want)
   | .skip=>some false
   | _=>none
  | none=>some false
noncomputable def vI (C:Ctx) (ops:Array Oper) (o:Oper) (e:Env) (S:zB):Option (Env × zB) :=
 (wV ops e o).bind fun w =>
  if w then
   (if xj C.H o e then (ev2 C o e S).map fun r=>(putD (qj r.kill e) o.dst r.v,r.S)
    else (ev1 C.P C.cp o e S S.length).map fun r=>(putD e o.dst r.v,uP (zH S r.fz) r.new))
  else some (putD e o.dst .skip,S)
noncomputable def vA (C:Ctx) (ops:Array Oper):List Oper→Env→zB→Option (Env × zB)
 | [],e,S=>some (e,S)
 | o::r,e,S=>(vI C ops o e S).bind fun (e,S)=>vA C ops r e S
def kind (H:Hints) (o:Oper) (e:Env):Nat :=
 if xj H o e then (match o.op with
  | .store .. => 3
  | .call c=>(match c.callee with
   | .value f=>(match ev e f with | .fn g _ _=>if H.refs g then (if H.reads g then 6 else 5) else 4 | _=>4)
   | _=>4)
  | _=>4) else
 match o.op with
 | .move _ | .assign _ | .pick .. | .binOp .. | .unOp .. | .extract .. | .field .. | .index .. | .makeFunc .. | .build .. | .fieldAddr .. | .nilCheck _=>0
 | .alloc _ | .box .. | .buildSlice .. | .makeSlice .. => 2
 | _=>1
def Y0 (o:Oper):Bool:=match o.op with | .load .. => true | _=>false
def zNW (kp ko:Nat) (p:Oper):Bool :=
 if kp=4∨ko=4 then false
 else if kp=5∨kp=6 then ko == 2
 else if ko=5 then kp == 0
 else if ko=6 then kp == 0||(kp == 1&&Y0 p)
 else !(kp == 3&&(ko == 1||ko == 3)) && !(ko == 3&&kp == 1)
def Xh (ops:Array Oper) (kp ko:Nat) (p o:Oper):Bool:=Oper.apart ops p o&&zNW kp ko p
def xt (o:Oper) (e:Env):Nat:=match o.op with
 | .store _ a _=>(match ev e a with | .mp id _ _=>id+1 | _=>0)
 | .indexAddr _ x _=>(match ev e x with | .msl id _ _ _=>id+1 | _=>0)
 | _=>0
def zJ3 (kp ko tp to:Nat):Bool:=(kp == 1||kp == 3)&&(ko == 1||ko == 3) && !(tp == 0) && !(to == 0) && !(tp == to)
def uS (ops:Array Oper) (k:Nat→Nat):Bool :=
 let b:=Region.before ops
 (List.range ops.size).all fun j=>match ops[j]? with
  | none=>true
  | some o=>(o.after.all fun e => !Region.binds .any e||decide (e.on<j)) &&
   (List.range j).all fun i=>match ops[i]? with
    | none=>true
    | some p=>(b.getD j 0).testBit i||(Xh ops (k i % 8) (k j % 8) p o||(Oper.apart ops p o&&zJ3 (k i % 8) (k j % 8) (k i / 8) (k j / 8)))
def zQI (o:Oper):Bool :=
 match o.op with
 | .call c=>(match c.callee with | .builtin .len | .builtin .max | .builtin .min=>true | _=>false)
 | _=>true
def WM (ops:Array Oper) (t:Nat):Nat→Bool
 | 0=>false
 | j+1=>match ops[j]? with
  | none=>false
  | some p=>if p.dst=some t then (p.guard.isNone&&(match p.op with | .buildSlice .. => true | .slice _ _ _ _ mx=>mx.isSome | _=>false)) else (zQI p&&WM ops t j)
def ZU (H:Hints) (ops:Array Oper) (j:Nat):Nat :=
 match ops[j]? with
 | some o=>(match o.op with
  | .call c=>(match c.callee with
   | .builtin .append=>(match c.args[0]? with | some (Operand.const _)=>kind H o [] | some (Operand.tmp t)=>(if WM ops t j=true then 1 else 4) | _=>4)
   | _=>kind H o [])
  | _=>kind H o [])
 | none=>0
noncomputable def wB (C:Ctx) (ops:Array Oper):List Oper→Env→zB→List Nat
 | [],_,_=>[]
 | o::r,e,S=>(kind C.H o e+8*xt o e)::(match vI C ops o e S with | some (e,S)=>wB C ops r e S | none=>[])
noncomputable def wr (C:Ctx) (ops:Array Oper) (draw:Bool) (e:Env) (S:zB):Option (Env × zB) :=
 if draw then (if uS ops (ZU C.H ops)||uS ops (fun j=>(wB C ops ops.toList e S).getD j 0) then vA C ops ops.toList e S else none) else vA C ops ops.toList e S
inductive X where
 | normal | exit (id:Nat) | ret
 deriving DecidableEq
def zCF {α:Type} (v:PV) (x y:Option α):Option α :=
 match v with
 | .bool t=>if t then x else y
 | _=>none
def keepOnly (live:List Nat) (e:Env):Env:=e.map fun (t,v)=>if live.contains t then (t,v) else (t,.undef)
def gc (n:Nat) (e:Env) (S:zB):zB :=
 if (e.all fun (_,v)=>v.refs.all fun i=>decide (i<n))∧((S.take n).all fun | .arr rows _ _=>(zT rows).all fun i=>decide (i<n) | .gone=>true) then S.take n else S
def ownCell (S:zB) (id i j:Nat):zB :=
 match S[id]? with
 | some (.arr rows g f)=>(match (rows.getD i [])[j]? with
  | some (.sl [] true)=>S.set id (.arr (rows.set i ((rows.getD i []).set j (.msl S.length 0 0 false))) g f)++[.arr [] (some none) false]
  | some (.msl a o l true)=>S.set id (.arr (rows.set i ((rows.getD i []).set j (.msl a o l false))) g f)
  | _=>S)
 | _=>S
def ownMem (S:zB) (x:PV) (j:Nat):zB :=
 match x with
 | .mp id i off=>ownCell S id i (off+j)
 | .msl id off len _=>(List.range len).foldl (fun S k=>ownCell S id (off+k) j) S
 | _=>S
def own1 (e:Env) (S:zB) (t:Nat):Env × zB :=
 if t<1000 then (match get e t with
 | .sl [] true=>(put e t (.msl S.length 0 0 false),S++[.arr [] (some none) false])
 | .msl id off len true=>(put e t (.msl id off len false),S)
 | _=>(e,S))
 else (e,ownMem S (get e (t % 1000)) (t / 1000-1))
def ownAll (ts:List Nat) (e:Env) (S:zB):Env × zB:=ts.foldl (fun (e,S) t=>own1 e S t) (e,S)
def fzSlot (e:Env) (S:zB) (t:Nat):Option (Env × zB) :=
 (wy S (get e t)).map fun v=>(put e t v,zH S (wO S 8 (get e t).refs))
def fzSlots:List Nat→Env→zB→Option (Env × zB)
 | [],e,S=>some (e,S)
 | t::r,e,S=>(fzSlot e S t).bind fun (e,S)=>fzSlots r e S
def qV (live fz:List Nat) (n:Nat) (e:Env) (S:zB):Option (Env × zB):=(fzSlots fz (keepOnly live e) S).map fun r=>(r.1,gc n r.1 r.2)
def Ud (b n:Nat) (after:List Nat) (q:X × Env × zB):X × Env × zB :=
 if q.1=.exit b then (q.1,keepOnly after q.2.1,gc n (keepOnly after q.2.1) q.2.2) else q
def Y1 (body:Env→zB→Option (X × Env × zB)) (norm:Env→zB→Option (Env × zB)):Nat→Env→zB→Option (X × Env × zB)
 | 0,_,_=>none
 | n+1,e,S=>(body e S).bind fun (x,e,S) =>
  match x with
  | .normal=>(norm e S).bind fun (e,S)=>Y1 body norm n e S
  | x=>some (x,e,S)
noncomputable def uL (C:Ctx) (k:Nat):Nat→Code→Env→zB→Option (X × Env × zB)
 | _,.skip,e,S=>some (.normal,e,S)
 | _,.region id ops draw,e,S=>(wr C ops draw e S).map fun (e,S)=>(.normal,trim (C.h.at id) e,S)
 | b,.seq x y,e,S=>(uL C k b x e S).bind fun (r,e,S) =>
  match r with
  | .normal=>uL C k b y e S
  | r=>some (r,e,S)
 | b,.cond c x y,e,S=>zCF (ev e c) (uL C k b x e S) (uL C k b y e S)
 | _,.block id body,e,S=>(uL C k id body e S).map fun (r,e,S)=>(if r=.exit id then .normal else r,e,S)
 | b,.loop body,e,S =>
  (C.h.loops.lookup b).bind fun h =>
  (fzSlots h.fz (ownAll h.own (keepOnly h.live e) S).1 (ownAll h.own (keepOnly h.live e) S).2).bind fun r =>
  (Y1 (uL C k b body) (qV h.live h.fz r.2.length) k r.1 r.2).map (Ud b r.2.length h.after)
 | _,.exit id,e,S=>some (.exit id,e,S)
 | _,.ret,e,S=>some (.ret,e,S)
 | _,_,_,_=>none
def uT (nt:Nat):Code→Bool
 | .region _ ops _=>ops.all fun o=>match o.dst with | some d=>decide (d<nt) | none=>true
 | .seq x y=>uT nt x&&uT nt y
 | .cond _ x y=>uT nt x&&uT nt y
 | .block _ x=>uT nt x
 | .loop x=>uT nt x
 | _=>true
def uU (P:Program) (e:Env) (S:zB):ResultVar→Option PV
 | .tmp t=>some (get e t)
 | .cell a t=>za (tyi P t) S (get e a)
def uk (P:Program) (fn:Func) (e:Env) (S:zB):Option PV :=
 (xY (uU P e S) fn.results.toList).map fun vs=>match vs with | [v]=>v | vs=>.tup vs
noncomputable def qk (P:Program) (H:Hints):Nat→FuncId→List PV→zB→Option (PV × zB)
 | 0,_,_,_=>none
 | k+1,f,args,S=>match H.orc f with
  | some g=>if zNv args=true then (g args).map fun v=>(v,S) else none
  | none=>match P.funcs[f]? with
  | some fn=>match fn.body with
   | some c =>
    if args.length ≤ fn.ntmps ∧ fn.name ≠ "runtime.NumGoroutine" ∧ uT fn.ntmps c = true then
     (uL {P,H,cp:=fun g aS=>(qk P H k g aS []).bind fun (r,S)=>wy S r,cr:=qk P H k,base:=S.length,h:=H.of f} k 0 c ((List.range args.length).zip args) S).bind fun (r,e,S) =>
      match r with
      | .exit _=>none
      | _=>(uk P fn e S).map fun v=>(v,S)
    else none
   | none=>none
  | none=>none
noncomputable def ql (P:Program) (H:Hints) (k:Nat) (f:FuncId) (args:List PV):Option PV :=
 (qk P H k f args []).bind fun (r,S)=>wy S r
end Go.Vs
end
section
namespace Go.Vs
open Go
theorem WN (a:Addr) (m n:Nat):(a.add m).add n=a.add (m+n):=by
 unfold Addr.add;by_cases hm:m=0
 ·subst hm;simp
 ·by_cases hn:n=0
  ·subst hn;simp
  ·simp[hm,hn,HG]
theorem ul (g o j:Nat):(⟨g,o,none⟩:Addr).add j=⟨g,o+j,none⟩:=by
 unfold Addr.add;split <;> simp_all
theorem jQ (a:Addr) (n:Nat):(a.add n).block=a.block:=by unfold Addr.add;split <;> rfl
structure Blk where
 b:Nat
 sz:Nat
 tot:Nat
abbrev Mu:=Nat→Option Blk
structure Arr where
 rows:List (List PV)
 g:Option (Option Nat)
 f:Bool
abbrev xh:=Nat→Option Arr
def arrs (S:zB):xh:=fun id=>match S[id]? with
 | some (.arr rows g f)=>some ⟨rows,g,f⟩
 | _=>none
section
variable (w:World) (av:Nat→Prop)
inductive FR:PV→Value→Prop
 | int (k:IntKind) (n:Int):FR (.int k n) (.int k n)
 | bool (b:Bool):FR (.bool b) (.bool b)
 | str (s:ByteArray):FR (.str s) (.string s)
 | raw (v:Value) (h:flat v=true):FR (.raw v) v
 | sl (rows:List (List PV)) (ex:Bool) (a:Option Addr) (cap:Nat) (ad:Addr) (sz:Nat) (c:Nat→Nat→Value)
   (hcap:rows.length≤cap) (hex:ex=true→cap=rows.length) (ha:a=none→cap=0) (had:rows≠[]→a=some ad)
   (hsz : ∀r∈rows,r.length=sz)
   (hc : ∀i row j pv,rows[i]? = some row→row[j]? = some pv→w.cell? (ad.add (i*sz+j))=some (c i j)∧¬av ad.block)
   (hr : ∀i row j pv,rows[i]? = some row→row[j]? = some pv→FR pv (c i j)):FR (.sl rows ex) (.slice a rows.length cap)
 | cp (row:List PV) (ad:Addr) (c:Nat→Value)
   (hc : ∀j pv,row[j]? = some pv→w.cell? (ad.add j)=some (c j)∧¬av ad.block)
   (hr : ∀j pv,row[j]? = some pv→FR pv (c j)):FR (.cp row) (.pointer (some ad))
 | fn (f:FuncId):FR (.fn f [] []) (.func (.func f) #[] #[])
theorem FR.flat {pv:PV} {v:Value} (h:FR w av pv v):flat v=true:=by cases h <;> first | rfl | assumption
variable (μ : Mu)
inductive VR:PV→Value→Prop
 | fr {pv:PV} {v:Value} (h:FR w av pv v):VR pv v
 | undef (v:Value):VR .undef v
 | skip:VR .skip Go.undef
 | raw (v:Value):VR (.raw v) v
 | msl (id off len:Nat) (ex:Bool) (ad:Addr) (cap:Nat) (b:Blk) (hμ : μ id=some b) (hlen:len≤cap) (htot:(off+cap)*b.sz≤b.tot)
   (hex:ex=true→cap=len) (had:0<cap→ad=⟨b.b,off*b.sz,none⟩):VR (.msl id off len ex) (.slice (some ad) len cap)
 | mslNil (id:Nat) (ex:Bool) (a:Option Addr):VR (.msl id 0 0 ex) (.slice a 0 0)
 | mp (id i off:Nat) (b:Blk) (hμ : μ id=some b):VR (.mp id i off) (.pointer (some ⟨b.b,i*b.sz+off,none⟩))
 | agg (cells:List PV) (cs:Array Value) (hn:cells.length=cs.size) (hf : ∀(j:Nat) (v:Value),cs[j]? = some v→Vs.flat v=true)
   (hr : ∀(j:Nat) (pv:PV) (v:Value),cells[j]? = some pv→cs[j]? = some v→VR pv v):VR (.agg cells) (.agg cs)
 | tup (vs:List PV) (us:Array Value) (hn:vs.length=us.size) (hr : ∀(j:Nat) (pv:PV) (v:Value),vs[j]? = some pv→us[j]? = some v→VR pv v):VR (.tup vs) (.tuple us)
 | fn (f:FuncId) (x y:List PV) (u v:Array Value) (hx:x.length=u.size) (hy:y.length=v.size)
   (rx : ∀(j:Nat) (pv:PV) (v:Value),x[j]? = some pv→u[j]? = some v→VR pv v) (ry : ∀(j:Nat) (pv:PV) (v':Value),y[j]? = some pv→v[j]? = some v'→VR pv v'):VR (.fn f x y) (.func (.func f) u v)
end
theorem VR.flat_of_cell {w:World} {av:Nat→Prop} {μ : Mu} {pv:PV} {v:Value} (h:VR w av μ pv v) (hc:pv.cell=true):flat v=true:=by
 cases h with
 | fr h=>exact FR.flat w av h
 | raw=>simpa [PV.cell] using hc
 | msl=>rfl
 | mslNil=>rfl
 | mp=>rfl
 | fn=>rfl
 | undef=>simp[PV.cell]at hc
 | skip=>simp[PV.cell]at hc
 | agg=>simp[PV.cell]at hc
 | tup=>simp[PV.cell]at hc
def uD (w:World) (av:Nat→Prop) (w':World) (av':Nat→Prop):Prop :=
 ∀a u,w.cell? a=some u→¬av a.block→w'.cell? a=some u∧¬av' a.block
theorem uD.refl (w:World) (av:Nat→Prop):uD w av w av:=fun _ _ h k=>⟨h,k⟩
theorem uD.trans {w w1 w2:World} {av av1 av2:Nat→Prop} (h:uD w av w1 av1) (k:uD w1 av1 w2 av2):uD w av w2 av2 :=
 fun a u h1 h2=>let ⟨x,y⟩:=h a u h1 h2;k a u x y
theorem uD.less {w:World} {av av':Nat→Prop} (h : ∀b,av' b→av b):uD w av w av':=fun _ _ h1 h2=>⟨h1,fun h3=>h2 (h _ h3)⟩
theorem FR.mono {w w':World} {av av':Nat→Prop} (hk:uD w av w' av') {pv:PV} {v:Value} (h:FR w av pv v):FR w' av' pv v:=by
 induction h with
 | int k n=>exact .int k n
 | bool b=>exact .bool b
 | str s=>exact .str s
 | raw v h=>exact .raw v h
 | sl rows ex a cap ad sz c hcap hex ha had hsz hc hr ih =>
  refine .sl rows ex a cap ad sz c hcap hex ha had hsz (fun i row j pv h1 h2=>?_) ih;have:=hc i row j pv h1 h2;have:=hk _ _ this.1 (by rw[jQ];exact this.2)
  rwa [jQ]at this
 | cp row ad c hc hr ih =>
  refine .cp row ad c (fun j pv h1=>?_) ih;have:=hc j pv h1;have:=hk _ _ this.1 (by rw[jQ];exact this.2)
  rwa [jQ]at this
 | fn f=>exact .fn f
theorem uG {l:List PV} {j:Nat} {pv:PV} (h:l[j]? = some pv) {i:Nat} (hi:i∈pv.refs):i∈vK l:=by
 induction l generalizing j with
 | nil=>simp at h
 | cons a r ih =>
  simp only[vK,sB];cases j with
  | zero=>simp at h;subst h;exact .inl hi
  | succ j=>simp at h;exact .inr (ih h)
theorem VR.mono {w w':World} {av av':Nat→Prop} {μ μ':Mu} (hk:uD w av w' av') {pv:PV} {v:Value} (h:VR w av μ pv v)
  (hμ : ∀i∈pv.refs,∀b,μ i=some b → μ' i=some b):VR w' av' μ' pv v:=by
 induction h with
 | fr h=>exact .fr (h.mono hk)
 | undef v=>exact .undef v
 | skip=>exact .skip
 | raw v=>exact .raw v
 | msl id off len ex ad cap b hm hlen htot hex had=>exact .msl id off len ex ad cap b (hμ id (by simp[PV.refs]) b hm) hlen htot hex had
 | mslNil id ex a=>exact .mslNil id ex a
 | mp id i off b hm=>exact .mp id i off b (hμ id (by simp[PV.refs]) b hm)
 | agg cells cs hn hf hr ih=>exact .agg cells cs hn hf fun j pv v h1 h2=>ih j pv v h1 h2 fun i hi=>hμ i (by simp only[PV.refs];exact uG h1 hi)
 | tup vs us hn hr ih=>exact .tup vs us hn fun j pv v h1 h2=>ih j pv v h1 h2 fun i hi=>hμ i (by simp only[PV.refs];exact uG h1 hi)
 | fn f x y u v hx hy rx ry ihx ihy =>
  exact .fn f x y u v hx hy (fun j pv v h1 h2=>ihx j pv v h1 h2 fun i hi=>hμ i (by simp only[PV.refs,sB];exact .inl (uG h1 hi)))
   (fun j pv v h1 h2=>ihy j pv v h1 h2 fun i hi=>hμ i (by simp only[PV.refs,sB];exact .inr (uG h1 hi)))
def Mut (A:xh) (μ : Mu) (b:Nat):Prop:=∃id rows g k,A id=some ⟨rows,g,false⟩ ∧ μ id=some k∧k.b=b
def Av (X:Nat→Prop) (A:xh) (μ : Mu) (b:Nat):Prop:=X b∨Mut A μ b
structure SR (w:World) (X:Nat→Prop) (A:xh) (n:Nat) (μ : Mu):Prop where
 lt : ∀id,n≤id → μ id=none∧A id=none
 blk : ∀id a,A id=some a→∀b,μ id=some b→∃c el,w.heap[b.b]? = some (.cells c el (0,0))∧c.size=b.tot∧a.rows.length*b.sz≤b.tot ∧
   (∀r∈a.rows,r.length=b.sz) ∧
   ∀i row j pv,a.rows[i]? = some row→row[j]? = some pv→∃v,c[i*b.sz+j]? = some v∧flat v=true∧VR w (Av X A μ) μ pv v
 nob : ∀id a,A id=some a → μ id=none→a.rows=[]
 gsz : ∀id a,A id=some a→(a.g=some none → μ id=none)∧∀k,a.g=some (some k)→∀b,μ id=some b→b.sz=k
 inj : ∀id id' a a' b b',A id=some a→A id'=some a' → μ id=some b → μ id'=some b'→b.b=b'.b→id=id'
 out : ∀id a b,A id=some a → μ id=some b→¬X b.b
 xlt : ∀b,X b→b<w.heap.size
structure Tr (base:Nat) (w:World) (A:xh) (μ : Mu) (w':World) (A':xh) (μ':Mu):Prop where
 os:w'.os=w.os
 tape:w'.tape=w.tape
 output:w'.output=w.output
 size:w.heap.size≤w'.heap.size
 keep : ∀b,b<w.heap.size→¬Mut A μ b→w'.heap[b]? = w.heap[b]?
 less : ∀b,b<w.heap.size→Mut A' μ' b→Mut A μ b
 mu : ∀id,id<base → μ' id = μ id
theorem Tr.refl (base:Nat) (w:World) (A:xh) (μ : Mu):Tr base w A μ w A μ := ⟨rfl,rfl,rfl,bF _,fun _ _ _=>rfl,fun _ _ h=>h,fun _ _=>rfl⟩
theorem Tr.trans {base:Nat} {w w1 w2:World} {A A1 A2:xh} {μ μ1 μ2:Mu} (h:Tr base w A μ w1 A1 μ1) (k:Tr base w1 A1 μ1 w2 A2 μ2):Tr base w A μ w2 A2 μ2 :=
 ⟨k.os.trans h.os,k.tape.trans h.tape,k.output.trans h.output,bP h.size k.size,
  fun b hb hm=>(k.keep b (aU hb h.size) fun h1=>hm (h.less b hb h1)).trans (h.keep b hb hm),
  fun b hb hm=>h.less b hb (k.less b (aU hb h.size) hm),fun id hi=>(k.mu id hi).trans (h.mu id hi)⟩
theorem zJ4 {w:World} {a:Addr} {u:Value} (h:w.cell? a=some u):a.block<w.heap.size:=by
 unfold World.cell? at h
 cases hh:w.heap[a.block]? with
 | none=>rw[hh]at h;simp at h
 | some o=>exact (sN.1 hh).1
theorem cell_of_heap {w w':World} {a:Addr} (h:w'.heap[a.block]? = w.heap[a.block]?):w'.cell? a=w.cell? a:=by unfold World.cell?;rw[h]
theorem Tr.keeps {base:Nat} {w w':World} {X:Nat→Prop} {A A':xh} {μ μ':Mu} (h:Tr base w A μ w' A' μ'):uD w (Av X A μ) w' (Av X A' μ'):=by
 intro a u h1 h2;have hl:=zJ4 h1;have h3 : ¬Mut A μ a.block:=fun x=>h2 (.inr x);refine⟨by rw[cell_of_heap (h.keep _ hl h3)];exact h1,fun hx=>?_⟩
 rcases hx with hx | hx
 ·exact h2 (.inl hx)
 ·exact h3 (h.less _ hl hx)
end Go.Vs
end
section
namespace Go.Vs
open Go
theorem Zj {v:Value} (h:flat v=true):v.oneCell'=true:=by cases v <;> simp_all [flat,Value.oneCell']
theorem uH {P:Program} {t:TypeId} (h:(tyi P t).known=true) : ∃d i,P.underlying t=some d∧P.info? t=some i∧i.size=(tyi P t).size∧i.bytes=(tyi P t).bytes:=by
 have h':(P.underlying t).isSome=true:=h;obtain⟨d,hd⟩:=Option.isSome_iff_exists.1 h'
 cases hi:P.info? t with
 | none=>simp[Program.underlying,hi]at hd
 | some i=>exact⟨d,i,hd,rfl,by simp[tyi,Program.cellsOf,hi],by simp[tyi,Program.bytesOf,hi]⟩
theorem xx {P:Program} {t e:TypeId} (h:(tyi P t).d=.slice e):P.underlying t=some (.slice e):=by
 unfold tyi at h
 revert h
 cases P.underlying t with
 | none=>simp
 | some d=>cases d <;> simp
theorem Zk {P:Program} {t:TypeId} (h:(tyi P t).d=.str):P.underlying t=some .string:=by
 unfold tyi at h
 revert h
 cases P.underlying t with
 | none=>simp
 | some d=>cases d <;> simp
theorem zJ5 {P:Program} {t:TypeId} (h:(tyi P t).d=.bool):P.underlying t=some .bool:=by
 unfold tyi at h
 revert h
 cases P.underlying t with
 | none=>simp
 | some d=>cases d <;> simp
theorem zAK {P:Program} {t:TypeId} {k:IntKind} (h:(tyi P t).d=.int k):P.underlying t=some (.int k):=by
 unfold tyi at h
 revert h
 cases P.underlying t with
 | none=>simp
 | some d=>cases d <;> simp
theorem Xi {P:Program} {t:TypeId} {fs:List (Nat × Nat × Bool)} (h:(tyi P t).d=.struct fs) : ∃gs:Array Field,P.underlying t=some (.struct gs)∧fs=gs.toList.map fun f=>(f.offset,WK P f.type,Zi P f.type):=by
 unfold tyi at h
 revert h
 cases P.underlying t with
 | none=>simp
 | some d=>cases d <;> simp <;> (intro h;exact h.symm)
theorem Ue {P:Program} {t:TypeId} (h:WK P t≠0) : ∃d i,P.underlying t=some d∧P.info? t=some i∧i.size=WK P t:=by
 unfold WK at *;by_cases hk:(P.underlying t).isSome=true
 ·rw[bA hk]at h ⊢;obtain⟨d,i,hd,hi,hs,_⟩:=uH (P:=P) (t:=t) (by simpa [tyi] using hk);exact⟨d,i,hd,hi,hs⟩
 ·rw[hZ hk]at h;exact absurd rfl h
theorem Jz {P:Program} {t e:TypeId} {n:Nat} (h:(tyi P t).d=.array n e):P.underlying t=some (.array n e):=by
 unfold tyi at h
 revert h
 cases P.underlying t with
 | none=>simp
 | some d=>cases d <;> simp
theorem zCG {P:Program} {t:TypeId} : (tyi P t).isAgg=Zi P t:=by
 unfold tyi TI.isAgg Zi;cases P.underlying t with
 | none=>simp
 | some d=>cases d <;> simp
theorem ZV {P:Program} {t:TypeId} {d:TypeDesc} (h:P.underlying t=some d) (w:World):(isAgg t).run P w=.ok (Zi P t) w:=by
 simp only[isAgg,pO,run_underlying h,pV,Zi,h]
 cases d <;> rfl
theorem xy {P:Program} {t:TypeId} {i:TypeInfo} (h:P.info? t=some i) (w:World):(sizeOf t).run P w=.ok i.size w:=by
 simp[sizeOf,typeInfo,h]
section
variable {P:Program} {w:World} {av:Nat→Prop} {μ : Mu}
theorem VR.int_inv {k:IntKind} {n:Int} {v:Value} (h:VR w av μ (.int k n) v):v=.int k n:=by cases h with | fr h=>cases h;rfl
theorem VR.bool_inv {b:Bool} {v:Value} (h:VR w av μ (.bool b) v):v=.bool b:=by cases h with | fr h=>cases h;rfl
theorem VR.str_inv {s:ByteArray} {v:Value} (h:VR w av μ (.str s) v):v=.string s:=by cases h with | fr h=>cases h;rfl
theorem VR.i {k:IntKind} {n:Int} : VR w av μ (.int k n) (.int k n):=.fr (.int k n)
theorem VR.b {b:Bool} : VR w av μ (.bool b) (.bool b):=.fr (.bool b)
theorem VR.s {s:ByteArray} : VR w av μ (.str s) (.string s):=.fr (.str s)
theorem WO (v:Value) (hf:flat v=true):VR w av μ (zAI v) v:=by
 unfold zAI
 split
 ·exact .i
 ·exact .b
 ·exact .s
 ·exact .fr (.sl [] true none 0 default 0 (fun _ _=>Go.undef) (bF _) (fun _=>rfl) (fun _=>rfl) (fun h=>absurd rfl h) (by simp) (by simp) (by simp))
 ·rename_i f first caps
  split
  ·rename_i h;have h1:first = #[]:=PP h.1
   have h2:caps = #[]:=PP h.2;subst h1;subst h2;exact .fr (.fn f)
  ·exact .raw _
 ·exact .raw _
theorem uI (v:Value):VR w av μ (jk v) v:=by
 unfold jk
 split
 ·rename_i cs
  split
  ·rename_i h;rw[pH]at h;refine .agg _ _ (by simp) (fun j v hv=>h v ?_) (fun j pv v hp hv=>?_)
   ·rw[←sE]at hv;exact pF hv
   ·rw[←sE]at hv;rw[pY,hv]at hp;simp at hp;subst hp;exact WO v (h v (pF hv))
  ·exact .raw _
 ·rename_i h;by_cases hf:flat v=true
  ·exact WO v hf
  ·cases v with
   | agg cs=>exact absurd rfl (h cs)
   | tuple vs=>exact .raw _
   | _=>exact absurd rfl hf
def ER (w:World) (av:Nat→Prop) (μ : Mu) (e:Env) (tmps:Array Value):Prop:=∀t,VR w av μ (get e t) (tmps.getD t undef)
theorem ju {e:Env} {a:Act} (h:ER w av μ e a.tmps) (x:Operand):VR w av μ (ev e x) (a.eval x):=by
 cases x with
 | tmp t=>exact h t
 | const v=>exact uI v
 | global g=>exact .undef _
 | func f=>exact .fr (.fn f)
theorem Zl (e:Env) (d:Nat) (v:PV) (t:Nat):get (put e d v) t=if d=t then v else get e t:=by
 induction e with
 | nil=>simp[put,get]
 | cons x r ih =>
  obtain⟨k,u⟩:=x;simp only[put];by_cases hk:k=d
  ·subst hk;simp only[if_true,get];split <;> rfl
  ·rw[hZ hk];simp only[get,ih];by_cases h1:k=t
   ·subst h1;simp[Ne.symm hk]
   ·simp[h1]
theorem ER.put {e:Env} {tmps:Array Value} (h:ER w av μ e tmps) {d:Nat} (hd:d<tmps.size) {pv:PV} {v:Value} (hv:VR w av μ pv v):ER w av μ (put e d pv) (tmps.setIfInBounds d v):=by
 intro t;rw[Zl];by_cases hdt:d=t
 ·subst hdt;simp[hd];exact hv
 ·rw[hZ hdt];have:=h t
  simpa [Array.getElem?_setIfInBounds_ne hdt] using this
theorem ER.mono {w':World} {av':Nat→Prop} {μ':Mu} {e:Env} {tmps:Array Value} (h:ER w av μ e tmps) (hk:uD w av w' av') (hμ : ∀i b,μ i=some b → μ' i=some b):ER w' av' μ' e tmps :=
 fun t=>(h t).mono hk fun i _ b hb=>hμ i b hb
theorem zJ6 (keep:List Nat) (e:Env) (t:Nat):get (trim keep e) t=get e t∨get (trim keep e) t=.undef:=by
 induction keep with
 | nil=>exact .inr rfl
 | cons k r ih =>
  show get ((k,get e k)::trim r e) t=_∨get ((k,get e k)::trim r e) t=_
  simp only[get]
  split
  ·rename_i h;subst h;exact .inl rfl
  ·exact ih
theorem ER.trim {e:Env} {tmps:Array Value} (h:ER w av μ e tmps) (keep:List Nat):ER w av μ (trim keep e) tmps:=by
 intro t
 rcases zJ6 keep e t with h1 | h1 <;> rw[h1]
 ·exact h t
 ·exact .undef _
theorem zAL (live:List Nat) (e:Env) (t:Nat):get (keepOnly live e) t=get e t∨get (keepOnly live e) t=.undef:=by
 induction e with
 | nil=>exact .inl rfl
 | cons x r ih =>
  obtain⟨k,u⟩:=x;simp only[keepOnly,pZ];by_cases hc:live.contains k=true
  ·rw[bA hc];simp only[get]
   split
   ·exact .inl rfl
   ·exact ih
  ·rw[hZ hc];simp only[get]
   split
   ·exact .inr rfl
   ·exact ih
theorem ER.keepOnly {e:Env} {tmps:Array Value} (h:ER w av μ e tmps) (live:List Nat):ER w av μ (keepOnly live e) tmps:=by
 intro t
 rcases zAL live e t with h1 | h1 <;> rw[h1]
 ·exact h t
 ·exact .undef _
end
end Go.Vs
end
section
namespace Go.Vs
open Go
def jR (S:zB) (A:xh) (μ : Mu):Prop:=∀id a b,arrs S id=some a → μ id=some b→∃f,A id=some ⟨a.rows,a.g,f⟩
theorem jR.refl (S:zB) (μ : Mu):jR S (arrs S) μ := fun id a b h _=>⟨a.f,h⟩
theorem zCH {S:zB} {id:Nat} {rows:List (List PV)} (h:zj S id=some rows) : ∃g f,arrs S id=some ⟨rows,g,f⟩:=by
 unfold zj at h;unfold arrs
 split at h
 ·rename_i r g f hh;simp at h;subst h;exact⟨g,f,by first | rw[hh] | rfl⟩
 ·cases h
theorem uV {S:zB} {A:xh} {μ : Mu} (hA:jR S A μ) {id:Nat} {rows:List (List PV)} (h:zj S id=some rows) {b:Blk} (hb : μ id=some b) : ∃g f,A id=some ⟨rows,g,f⟩:=by
 obtain⟨g,f,h⟩:=zCH h;obtain⟨f',h'⟩:=hA id _ b h hb;exact⟨g,f',h'⟩
section
variable {P:Program} {A:xh} {w:World} {X:Nat→Prop} {S:zB} {n:Nat} {μ : Mu}
theorem SR.row {A:xh} (hS:SR w X A n μ) {id:Nat} {a:Arr} (ha:A id=some a) {b:Blk} (hb : μ id=some b) {i:Nat} {row:List PV} (hi:a.rows[i]? = some row) :
  row.length=b.sz∧∀j pv,row[j]? = some pv→∃u,w.cell? ⟨b.b,i*b.sz+j,none⟩=some u∧flat u=true∧VR w (Av X A μ) μ pv u:=by
 obtain⟨c,el,hh,hc,htot,hsz,hcell⟩:=hS.blk id a ha b hb;refine⟨hsz row (pF hi),fun j pv hj=>?_⟩;obtain⟨u,h1,h2,h3⟩:=hcell i row j pv hi hj;exact⟨u,by simp[World.cell?,hh,h1],h2,h3⟩
theorem Uf {av:Nat→Prop} {t:TypeId} {ad:Addr} {row:List PV} {pv:PV} (hrow : ∀j pv,row[j]? = some pv→∃u,w.cell? (ad.add j)=some u∧flat u=true∧VR w av μ pv u)
  (h:part (tyi P t) row=some pv) : ∃u,(loadVar t ad).run P w=.ok u w∧VR w av μ pv u:=by
 unfold part at h
 split at h
 ·cases h
 ·rename_i hk;obtain⟨d,i,hd,hi,hs,_⟩:=uH (P:=P) (t:=t) (by simpa using hk);rw[zCG]at h;simp only[loadVar,pO,ZV hd,pV];by_cases ha:Zi P t=true
  ·rw[bA ha]at h ⊢
   split at h
   ·rename_i hle;simp at h;subst h;have hf : ∀j,j<i.size→w.cell? (ad.add j)=some ((w.cell? (ad.add j)).getD undef):=fun j hj=>by
     obtain⟨u,hu,_⟩:=hrow j (row[j]'(by omega)) (pP (by omega));rw[hu];rfl
    simp only[pO,xy hi,pV,run_loadCells w ad i.size (fun j=>(w.cell? (ad.add j)).getD undef) hf,sK];refine⟨_,rfl,.agg _ _ (by simp;omega) (fun j v hv=>?_) (fun j pv v hp hv=>?_)⟩
    ·simp only[HW,pY]at hv;by_cases hj:j<i.size
     ·rw[HX hj]at hv;simp at hv;obtain⟨u,hu,hfl,_⟩:=hrow j (row[j]'(by omega)) (pP (by omega));rw[hu]at hv;simp at hv;subst hv;exact hfl
     ·rw[sA (by simpa using hj)]at hv;simp at hv
    ·simp only[HW,pY]at hv;by_cases hj:j<i.size
     ·rw[HX hj]at hv;simp at hv;rw[sR (by omega)]at hp;obtain⟨u,hu,hfl,hr⟩:=hrow j pv hp;rw[hu]at hv;simp at hv;subst hv;exact hr
     ·rw[sA (by simpa using hj)]at hv;simp at hv
   ·cases h
  ·rw[hZ ha]at h ⊢;cases row with
   | nil=>simp at h
   | cons p r =>
    simp at h;subst h;obtain⟨u,hu,_,hr⟩:=hrow 0 p rfl;have h0:ad.add 0=ad:=by simp[Addr.add]
    rw[h0]at hu;exact⟨u,by simp[run_load,hu],hr⟩
theorem Ug (hS:SR w X A n μ) (hSA:jR S A μ) {t:TypeId} {x pv:PV} {v:Value} (hv:VR w (Av X (A) μ) μ x v) (h:za (tyi P t) S x=some pv) :
  ∃u,(Instr.loadAt t v).run P w=.ok u w∧VR w (Av X (A) μ) μ pv u:=by
 cases x <;> simp only[za,reduceCtorEq]at h
 case cp row =>
  cases hv with | fr hf =>
  cases hf with | cp _ ad c hc hr =>
  simp only[Instr.loadAt,Instr.sureAddr,pO,sK,pV];exact Uf (fun j pv hj=>⟨c j,(hc j pv hj).1,FR.flat _ _ (hr j pv hj),.fr (hr j pv hj)⟩) h
 case mp id i off =>
  cases hv with
  | fr hf=>cases hf
  | mp _ _ _ b hb =>
  cases hr:zj S id with
  | none=>rw[hr]at h;simp at h
  | some rows =>
   rw[hr]at h;simp only[bI]at h
   split at h
   ·rename_i hi;obtain⟨g,f,ha⟩:=uV hSA hr hb;obtain⟨hlen,hcell⟩:=hS.row ha hb (i:=i) (row:=rows.getD i []) (by simp[List.getD,pP hi]);simp only[Instr.loadAt,Instr.sureAddr,pO,sK,pV];refine Uf (fun j pv hj=>?_) h;rw[aC]at hj;obtain⟨u,h1,h2,h3⟩:=hcell (off+j) pv hj;exact⟨u,by rw[ul,HG];exact h1,h2,h3⟩
   ·cases h
theorem yj {k:Nat} {rows:List (List PV)} (h:yM k rows=true) : ∀r∈rows,r.length=k:=by
 intro r hr;unfold yM at h;rw[pH]at h
 simpa using h r hr
theorem UM (hS:SR w X A n μ) (hSA:jR S A μ) {t el:TypeId} (ht:P.underlying t=some (.slice el)) (hel:(tyi P el).known=true) {x i pv:PV} {v u:Value}
  (hv:VR w (Av X (A) μ) μ x v) (hu:VR w (Av X (A) μ) μ i u) (h:vr (tyi P el).size S x i=some pv) :
  ∃z,(Instr.indexAt t v u).run P w=.ok z w∧VR w (Av X (A) μ) μ pv z:=by
 obtain⟨de,ie,hde,hie,hse,_⟩:=uH hel
 cases x <;> simp only[vr,reduceCtorEq]at h
 case sl rows ex =>
  cases i <;> simp only[reduceCtorEq]at h
  rename_i k m;obtain rfl:=hu.int_inv
  split at h
  ·rename_i hm
   split at h
   ·rename_i hlen;simp at h;subst h
    cases hv with | fr hf =>
    cases hf with | sl _ _ a cap ad sz c hcap hex ha had hsz hc hr =>
    have hne:rows≠[]:=by intro h0;subst h0;simp at hm;omega
    have:=had hne;subst this;have hmn:m.toNat<rows.length:=by omega
    have hrow:rows[m.toNat]? = some (rows.getD m.toNat []):=by simp[List.getD,pP hmn]
    have hsz':sz=(tyi P el).size:=by rw[←hsz _ (pF hrow)];exact hlen
    simp only[Instr.indexAt,asIntOf,pO,sK,pV,run_underlying ht,xy hie];rw[bA (by omega)];simp only[pO,xy hie,pV,sK];refine⟨_,rfl,.fr (.cp _ _ (fun j=>c m.toNat j) (fun j pv hj=>?_) (fun j pv hj=>hr _ _ _ _ hrow hj))⟩;have:=hc m.toNat _ j pv hrow hj;rw[WN,jQ,hse,←hsz'];exact this
   ·cases h
  ·cases h
 case msl id off len ex =>
  cases i <;> simp only[reduceCtorEq]at h
  rename_i k m;obtain rfl:=hu.int_inv
  split at h
  ·rename_i hm
   cases hr:zj S id with
   | none=>rw[hr]at h;simp at h
   | some rows =>
    rw[hr]at h;simp only[bI]at h
    split at h
    ·rename_i hok;simp at h;subst h;cases hv with
     | fr hf=>cases hf
     | mslNil=>omega
     | msl _ _ _ _ ad cap b hb hlen htot hex had =>
     obtain⟨g,f,ha⟩:=uV hSA hr hb;have had':=had (by omega);subst had';have hlt:off+m.toNat<rows.length:=by omega
     obtain⟨hlen',_⟩:=hS.row ha hb (i:=off+m.toNat) (row:=rows.getD (off+m.toNat) []) (by simp[List.getD,pP hlt]);have hsz:b.sz=(tyi P el).size:=by
      rw[←hlen'];exact yj hok.1 _ (by simp[List.getD,pP hlt])
     simp only[Instr.indexAt,asIntOf,pO,sK,pV,run_underlying ht];rw[bA (by omega)];simp only[pO,xy hie,pV,sK,ul];refine⟨_,rfl,?_⟩;have:=VR.mp (w:=w) (av:=Av X (A) μ) (μ := μ) id (off+m.toNat) 0 b hb;rw[aK,pW]at this;rw[hse,←hsz];exact this
    ·cases h
  ·cases h
end
end Go.Vs
end
