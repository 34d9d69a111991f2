import Derived.LoopN
import Derived.Orders
import Derived.Tactics
import Derived.Laws.CopyRow
import Derived.Laws.Cells
import Derived.Laws.Slices
set_option linter.unusedVariables false
set_option linter.unusedSimpArgs false
section
namespace Go.Vs
abbrev hI:=@if_neg
abbrev hZ:=@if_pos
abbrev bA:=@IntKind.wrap_i64
abbrev bB:=@Nat.le_refl
abbrev bC:=@Option.bind_some
abbrev bD:=@Int.toNat_natCast
abbrev bE:=@List.getD_eq_getElem?_getD
abbrev bF:=@Nat.le_trans
abbrev bG:=@Int.mul_add
abbrev bH:=@Bool.false_eq_true
abbrev bI:=@List.getElem?_eq_getElem
abbrev bJ:=@Option.map_some
abbrev bK:=@List.mem_of_getElem?
abbrev bL:=@List.getElem?_eq_some_iff
abbrev bM:=@Int.mul_comm
abbrev bN:=@Int.mul_assoc
abbrev bO:=@List.length_append
abbrev bP:=@List.length_cons
abbrev bQ:=@Sem.run_bind
abbrev bR:=@Array.getElem?_eq_getElem
abbrev bS:=@Bool.and_eq_true
abbrev bT:=@List.eq_nil_of_length_eq_zero
abbrev bU:=@IntKind.wrap_u32
abbrev bV:=@Nat.mul_le_mul_right
abbrev bW:=@Nat.zero_add
abbrev bX:=@Result.andThen_ok
abbrev bY:=@List.getElem?_eq_none
abbrev bZ:=@Nat.add_mul
abbrev pA:=@List.drop_of_length_le
abbrev pB:=@List.getElem?_map
abbrev pC:=@List.nil_append
abbrev pD:=@List.append_nil
abbrev pE:=@Array.getElem?_toList
abbrev pF:=@List.map_cons
abbrev pG:=@List.getElem?_append_right
abbrev pH:=@List.drop_zero
abbrev pI:=@Int.mul_le_mul_of_nonneg_left
abbrev pJ:=@List.length_take
abbrev pK:=@Sem.run_pure
abbrev pL:=@Int.natCast_mul
abbrev pM:=@decide_eq_true
abbrev pN:=@List.all_eq_true
abbrev pO:=@Int.pow_succ
abbrev pP:=@List.getElem?_append_left
abbrev pQ:=@Bool.true_and
abbrev pR:=@Array.getElem?_eq_some_iff
abbrev pS:=@Bool.false_and
abbrev pT:=@List.set_append
abbrev pU:=@Int.mul_le_mul_of_nonneg_right
abbrev pV:=@List.set_cons_zero
abbrev pW:=@Int.mul_nonneg
abbrev pX:=@Int.ediv_nonneg
abbrev pY:=@List.getElem?_drop
abbrev pZ:=@List.take_of_length_le
abbrev sA:=@decide_eq_false
abbrev sB:=@List.mem_append
abbrev sC:=@Nat.add_zero
abbrev sD:=@Nat.zero_le
abbrev sE:=@Nat.mod_eq_of_lt
abbrev sF:=@Int.emod_lt_of_pos
abbrev sG:=@Int.tdiv_eq_ediv_of_nonneg
abbrev sH:=@List.mem_map
abbrev sI:=@Array.length_toList
abbrev sJ:=@Nat.mod_lt
abbrev sK:=@Array.getD_eq_getD_getElem?
abbrev sL:=@decide_eq_true_eq
abbrev sM:=@Nat.sub_self
abbrev sN:=@Int.mul_ediv_add_emod
abbrev sO:=@Int.tmod_eq_emod_of_nonneg
abbrev sP:=@Int.le_of_lt
abbrev sQ:=@Option.bind_eq_some_iff
abbrev sR:=@List.getElem?_take_of_lt
abbrev sS:=@List.length_map
abbrev sT:=@Nat.pow_pos
abbrev sU:=@List.drop_length
abbrev sV:=@List.replicate_succ
abbrev sW:=@Nat.gcd_comm
abbrev sX:=@List.getElem?_range
abbrev sY:=@List.length_replicate
abbrev sZ:=@List.length_singleton
abbrev aA:=@List.map_nil
abbrev aB:=@Option.map_none
abbrev aC:=@Nat.pow_add
abbrev aD:=@Int.mul_zero
abbrev aE:=@Int.emod_nonneg
abbrev aF:=@Nat.div_le_self
abbrev aG:=@List.append_assoc
abbrev aH:=@Nat.mul_comm
abbrev aI:=@Nat.div_eq_of_lt
abbrev aJ:=@Int.le_refl
abbrev aK:=@List.take_add_one
abbrev aL:=@Int.pow_pos
abbrev aM:=@Int.toNat_zero
abbrev aN:=@Nat.add_assoc
abbrev aO:=@List.getElem?_take
abbrev aP:=@Bool.not_false
abbrev aQ:=@Int.add_mul
abbrev aR:=@List.length_pos_iff
abbrev aT:=@Int.sub_mul
abbrev aU:=@Nat.div_one
abbrev aV:=@Nat.lt_of_lt_of_le
abbrev aW:=@List.getElem?_toArray
abbrev aX:=@List.getElem?_of_mem
abbrev aY:=@List.all_cons
abbrev aZ:=@List.length_set
abbrev HA:=@Option.bind_none
abbrev HB:=@List.take_append_drop
abbrev HC:=@List.cons_append
abbrev HD:=@Bool.and_false
abbrev HE:=@List.replicate_zero
abbrev HF:=@Int.mul_left_comm
abbrev HG:=@Int.natCast_pow
abbrev HH:=@List.mem_of_mem_take
abbrev HI:=@Bool.false_or
abbrev HJ:=@Bool.or_false
abbrev HK:=@Int.natCast_add
abbrev HL:=@Nat.pow_mul
abbrev HM:=@Int.one_mul
abbrev HN:=@Nat.mul_ne_zero
abbrev HO:=@List.mem_flatMap
abbrev HP:=@List.getElem?_set
abbrev HQ:=@Bool.not_true
abbrev HR:=@List.length_nil
abbrev HS:=@List.eq_of_mem_replicate
abbrev HT:=@Int.ediv_lt_iff_lt_mul
abbrev HU:=@Int.zero_add
abbrev HV:=@List.length_eq_one_iff
abbrev HW:=@Nat.le_of_dvd
abbrev HX:=@Nat.lt_or_ge
abbrev HY:=@List.flatMap_cons
abbrev HZ:=@List.size_toArray
abbrev BA:=@Nat.div_lt_iff_lt_mul
abbrev BB:=@List.getElem?_cons_succ
abbrev BC:=@Nat.lt_succ_self
abbrev BD:=@List.mem_cons
abbrev BE:=@Bool.and_self
abbrev BF:=@Bool.and_true
abbrev BG:=@Int.add_assoc
abbrev BH:=@Nat.lt_of_le_of_lt
abbrev BI:=@Int.add_zero
abbrev BJ:=@BitVec.ofInt_natCast
abbrev BK:=@BitVec.toNat_ofNat
abbrev BL:=@Int.ediv_le_self
abbrev BM:=@Nat.gcd_zero_right
abbrev BN:=@Array.eq_empty_of_size_eq_zero
abbrev BO:=@Bool.or_eq_true
abbrev BP:=@List.mem_of_mem_drop
abbrev BQ:=@List.getElem?_set_ne
abbrev BR:=@List.contains_eq_mem
abbrev BS:=@Option.getD_some
abbrev BT:=@Nat.div_add_mod
abbrev BU:=@List.mem_range
abbrev BV:=@Nat.min_eq_left
abbrev BW:=@of_decide_eq_true
abbrev BX:=@Nat.lt_or_eq_of_le
abbrev BY:=@List.getElem_mem
abbrev BZ:=@Nat.div_lt_self
abbrev PA:=@Nat.mul_le_mul_left
abbrev PB:=@Int.fdiv_eq_ediv_of_nonneg
abbrev PC:=@List.drop_eq_getElem_cons
abbrev PD:=@List.replicate_succ'
abbrev PE:=@Nat.pow_le_pow_right
abbrev PF:=@Int.emod_eq_of_lt
abbrev PG:=@Nat.gcd_dvd_right
abbrev PH:=@Array.getElem?_extract
abbrev PI:=@Option.map_eq_some_iff
abbrev PJ:=@List.getElem?_replicate
abbrev PK:=@Array.getElem?_append_left
abbrev PL:=@Bool.not_eq_true'
abbrev PM:=@Classical.choose_spec
abbrev PN:=@List.take_length
abbrev PO:=@List.length_tail
abbrev PP:=@List.replicate_append_replicate
abbrev PQ:=@Int.add_mul_ediv_left
abbrev PR:=@List.drop_eq_nil_of_le
abbrev PS:=@List.getElem?_cons_zero
abbrev PT:=@List.length_eq_zero_iff
abbrev PU:=@Nat.eq_zero_of_gcd_eq_zero_right
open Go
inductive PV where
 | undef
 | skip
 | int (k:IntKind) (n:Int)
 | bool (b:Bool)
 | str (s:ByteArray)
 | raw (v:Value)
 | sl (rows:List (List PV)) (ex:Bool)
 | cp (row:List PV)
 | msl (id off len:Nat) (ex:Bool)
 | mp (id i off:Nat)
 | agg (cells:List PV)
 | tup (vs:List PV)
 | fn (f:FuncId) (first caps:List PV)
 deriving Inhabited
inductive Obj where
 | arr (rows:List (List PV)) (grow:Option (Option Nat)) (fz:Bool)
 | gone
 deriving Inhabited
abbrev zA:=List Obj
abbrev Env:=List (Nat × PV)
def get:Env→Nat→PV
 | [],_=>.undef
 | (k,v)::r,t=>if k=t then v else get r t
def put:Env→Nat→PV→Env
 | [],t,v=>[(t,v)]
 | (k,u)::r,t,v=>if k=t then (t,v)::r else (k,u)::put r t v
def putD (e:Env) (d:Option Nat) (v:PV):Env:=match d with | some t=>put e t v | none=>e
def trim (keep:List Nat) (e:Env):Env:=keep.map fun t=>(t,get e t)
def PV.cells:PV→List PV
 | .agg cs=>cs
 | v=>[v]
def flat:Value→Bool
 | .agg _ | .tuple _=>false
 | _=>true
def PV.cell:PV→Bool
 | .agg _ | .tup _ | .undef | .skip=>false
 | .raw v=>flat v
 | _=>true
mutual
def PV.refs:PV→List Nat
 | .agg cs=>xa cs
 | .tup vs=>xa vs
 | .fn _ a b=>xa a++xa b
 | .msl id _ _ _=>[id]
 | .mp id _ _=>[id]
 | _=>[]
def xa:List PV→List Nat
 | []=>[]
 | v::r=>v.refs++xa r
end
def zd (rows:List (List PV)):List Nat:=rows.flatMap xa
inductive TD where
 | int (k:IntKind) | bool | str | slice (e:TypeId) | struct (fs:List (Nat × Nat × Bool)) | array (n:Nat) (e:TypeId) | ptr (e:TypeId) | other
structure TI where
 d:TD
 size:Nat
 bytes:Nat
 zero:Option (List PV)
 known:Bool:=true
def W7:Value→PV
 | .int k n=>.int k n
 | .bool b=>.bool b
 | .string s=>.str s
 | .slice none 0 0=>.sl [] true
 | .func (.func f) first caps=>if first.size=0∧caps.size=0 then .fn f [] [] else .raw (.func (.func f) first caps)
 | v=>.raw v
def vl:Value→PV
 | .agg cs=>if cs.toList.all flat then .agg (cs.toList.map W7) else .raw (.agg cs)
 | v=>W7 v
def uo (P:Program) (t:TypeId):Bool :=
 match P.underlying t with
 | some (.struct _) | some (.array _ _)=>true
 | _=>false
def qI (P:Program) (t:TypeId):Nat:=if (P.underlying t).isSome then P.cellsOf t else 0
def tyi (P:Program) (t:TypeId):TI :=
 {d:=match P.underlying t with
   | some (.int k)=>.int k
   | some .bool=>.bool
   | some .string=>.str
   | some (.slice e)=>.slice e
   | some (.struct fs)=>.struct (fs.toList.map fun f=>(f.offset,qI P f.type,uo P f.type))
   | some (.array n e)=>.array n e
   | some (.pointer e)=>.ptr e
   | _=>.other
  size:=P.cellsOf t
  bytes:=P.bytesOf t
  zero:=((P.info? t).bind (·.zero)).map fun v=>(vl v).cells
  known:=(P.underlying t).isSome}
def TI.isAgg (t:TI):Bool :=
 match t.d with
 | .struct _ | .array _ _=>true
 | _=>false
def yW (ti:TI):TypeId :=
 match ti.d with
 | .slice e=>e
 | _=>0
def wT (ti:TI):Bool :=
 match ti.d with
 | .slice _=>true
 | _=>false
def ev (e:Env):Operand→PV
 | .tmp t=>get e t
 | .const v=>vl v
 | .global _=>.undef
 | .func f=>.fn f [] []
def zq (n:Nat) (rows:List (List PV)):Bool:=rows.all fun r=>r.length == n
def zz (S:zA) (id:Nat):Option (List (List PV)) :=
 match S[id]? with
 | some (.arr rows _ _)=>some rows
 | _=>none
def part (ti:TI) (row:List PV):Option PV :=
 if ti.known=false then none else
 if ti.isAgg then (if ti.size≤row.length then some (.agg (row.take ti.size)) else none) else row.head?
def zb (ti:TI) (S:zA):PV→Option PV
 | .cp row=>part ti row
 | .mp id i off=>(zz S id).bind fun rows=>if i<rows.length then part ti ((rows.getD i []).drop off) else none
 | _=>none
def xb (sz:Nat) (S:zA):PV→PV→Option PV
 | .sl rows _,.int _ n=>if 0≤n∧n<rows.length then (if (rows.getD n.toNat []).length=sz then some (.cp (rows.getD n.toNat [])) else none) else none
 | .msl id off len _,.int _ n=>if 0≤n∧n<len then (zz S id).bind fun rows=>(if zq sz rows∧off+len≤rows.length then some (.mp id (off+n.toNat) 0) else none) else none
 | _,_=>none
def zF (ti:TI) (f:Nat):PV→Option PV
 | .cp row=>match ti.d with
  | .struct fs=>match fs[f]? with
   | some (o,n,_)=>if n=0 then none else some (.cp (row.drop o))
   | none=>none
  | _=>none
 | .mp id i off=>match ti.d with
  | .struct fs=>match fs[f]? with
   | some (o,n,_)=>if n=0 then none else some (.mp id i (off+o))
   | none=>none
  | _=>none
 | _=>none
def zT (ti:TI) (f:Nat):PV→Option PV
 | .agg cs=>match ti.d with
  | .struct fs=>match fs[f]? with
   | some (o,n,g)=>if n=0 then none else if g then (if o+n≤cs.length then some (.agg ((cs.drop o).take n)) else none) else cs[o]?
   | none=>none
  | _=>none
 | _=>none
def xg (d:Nat):Option PV→Option Nat
 | none=>some d
 | some (.int _ n)=>if 0≤n then some n.toNat else none
 | some _=>none
def vm (ti:TI) (esz:Nat) (S:zA) (x:PV) (lo hi mx:Option PV):Option PV :=
 match ti.d,x with
 | .str,.str s=>match mx with
  | none=>(xg 0 lo).bind fun l=>(xg s.size hi).bind fun h=>if l≤h∧h≤s.size then some (.str (s.extract l h)) else none
  | some _=>none
 | .slice _,.sl rows ex=>(xg 0 lo).bind fun l=>(xg rows.length hi).bind fun h=>(xg h mx).bind fun m =>
   if l≤h∧h≤rows.length∧m=h∧zq esz rows∧(mx.isNone||hi.isSome) then some (.sl ((rows.take h).drop l) (mx.isSome||(ex&&hi.isNone))) else none
 | .slice _,.msl id off len ex=>(zz S id).bind fun rows=>(xg 0 lo).bind fun l=>(xg len hi).bind fun h=>(xg h mx).bind fun m =>
   if l≤h∧h≤len∧m=h∧zq esz rows∧off+len≤rows.length∧(mx.isNone||hi.isSome) then some (.msl id (off+l) (h-l) (mx.isSome||(ex&&hi.isNone))) else none
 | _,_=>none
def wU (ti:TI) (esz:Nat) (eagg:Bool):PV→PV→Option PV
 | .str s,.int _ n=>match ti.d with
  | .str=>if 0≤n∧n<s.size then some (.int .u8 (s.data.toList.getD n.toNat 0).toNat) else none
  | _=>none
 | .agg cs,.int _ n=>match ti.d with
  | .array len _=>if 0≤n∧n<len then (if eagg then (if (n.toNat+1)*esz≤cs.length then some (.agg ((cs.drop (n.toNat*esz)).take esz)) else none) else cs[n.toNat*esz]?) else none
  | _=>none
 | _,_=>none
def vU (op:BinOp) (k:IntKind) (a b:Int):Option PV :=
 match op with
 | .add=>some (.int k (k.wrap (a+b)))
 | .sub=>some (.int k (k.wrap (a-b)))
 | .mul=>some (.int k (k.wrap (a*b)))
 | .quo=>if b=0 then none else some (.int k (k.wrap (a.tdiv b)))
 | .rem=>if b=0 then none else some (.int k (a.tmod b))
 | .and=>some (.int k (k.wrap (BitVec.ofInt k.bits a &&& BitVec.ofInt k.bits b).toNat))
 | .or=>some (.int k (k.wrap (BitVec.ofInt k.bits a ||| BitVec.ofInt k.bits b).toNat))
 | .xor=>some (.int k (k.wrap (BitVec.ofInt k.bits a ^^^ BitVec.ofInt k.bits b).toNat))
 | .andNot=>some (.int k (k.wrap (BitVec.ofInt k.bits a &&& ~~~(BitVec.ofInt k.bits b)).toNat))
 | .eql=>some (.bool (decide (a=b)))
 | .neq=>some (.bool (!decide (a=b)))
 | .lss=>some (.bool (decide (a<b)))
 | .leq=>some (.bool (decide (a≤b)))
 | .gtr=>some (.bool (decide (a > b)))
 | .geq=>some (.bool (decide (a ≥ b)))
 | _=>none
def qJ (op:BinOp) (k:IntKind) (a b:Int):Option PV :=
 if b<0 then none else
 match op with
 | .shl=>some (.int k (k.wrap (a*2^min b.toNat k.bits)))
 | .shr=>some (.int k (a.fdiv (2^min b.toNat k.bits)))
 | _=>none
def zAg (op:BinOp) (x y:ByteArray):Option PV :=
 match op with
 | .add=>if x.size+y.size≤9223372036854775807 then some (.str (x++y)) else none
 | .eql=>some (.bool (x.toList == y.toList))
 | .neq=>some (.bool (!(x.toList == y.toList)))
 | .lss=>some (.bool (Op.bytesLess x.toList y.toList))
 | .leq=>some (.bool (Op.bytesLess x.toList y.toList||x.toList == y.toList))
 | .gtr=>some (.bool (!(Op.bytesLess x.toList y.toList||x.toList == y.toList)))
 | .geq=>some (.bool (!(Op.bytesLess x.toList y.toList)))
 | _=>none
def yQ (op:BinOp) (ti:TI) (x y:PV):Option PV :=
 match x,y with
 | .int k a,.int k' b=>match op with
  | .shl | .shr=>qJ op k a b
  | _=>if k=k' then vU op k a b else none
 | .bool a,.bool b=>match ti.d with
  | .bool=>(match op with
   | .eql=>some (.bool (a == b))
   | .neq=>some (.bool (!(a == b)))
   | _=>none)
  | _=>none
 | .str a,.str b=>zAg op a b
 | _,_=>none
def W8 (op:BinOp):Option PV :=
 match op with
 | .eql=>some (.bool false)
 | .neq=>some (.bool true)
 | _=>none
def Zt (op:BinOp) (d:TD) (y:Operand):Option PV :=
 match d,y with
 | .slice _,.const (.slice none 0 0)=>W8 op
 | _,_=>none
def zAh (op:BinOp) (ti:TI) (y:Operand):PV→Option PV
 | .sl (_::_) _=>Zt op ti.d y
 | .msl _ _ (_+1) _=>Zt op ti.d y
 | _=>none
def vw (op:BinOp) (ti:TI) (yo:Operand) (x y:PV):Option PV :=
 match zAh op ti yo x with
 | some v=>some v
 | none=>yQ op ti x y
def K8 (op:UnOp):PV→Option PV
 | .int k n=>match op with
  | .neg=>some (.int k (k.wrap (0-n)))
  | .xor=>some (.int k (k.wrap (BitVec.ofInt k.bits (if k.signed then -1 else k.max) ^^^ BitVec.ofInt k.bits n).toNat))
  | _=>none
 | .bool b=>match op with
  | .not=>some (.bool (!b))
  | _=>none
 | _=>none
def bytesOf:List (List PV)→Option (List UInt8)
 | []=>some []
 | [.int .u8 n]::r=>(bytesOf r).map fun l=>UInt8.ofNat n.toNat::l
 | _=>none
def uG (s:ByteArray):List (List PV):=s.data.toList.map fun b=>[.int .u8 b.toNat]
def Zi:TD→Bool
 | .slice _=>true
 | .str=>true
 | _=>false
def YJ (ti:TI):PV→Option PV
 | .str s=>match ti.d with | .str=>some (.int .i64 s.size) | _=>none
 | .sl rows _=>match ti.d with | .slice _=>some (.int .i64 rows.length) | _=>none
 | .msl _ _ len _=>match ti.d with | .slice _=>some (.int .i64 len) | _=>none
 | _=>none
structure Out where
 v:PV
 new:Option (List (List PV) × Option (Option Nat)):=none
 fz:List Nat:=[]
def rowsIn (S:zA):PV→Option (List (List PV))
 | .sl rows _=>some rows
 | .msl id off len _=>(zz S id).bind fun rows=>if off+len≤rows.length then some ((rows.drop off).take len) else none
 | _=>none
def rowsS (S:zA):PV→Option (List (List PV))
 | .str s=>some (uG s)
 | y=>rowsIn S y
def Qh (ti:TI):Bool :=
 match ti.d with
 | .int .u8=>true
 | _=>false
def yS (src dst:TI) (u8:Bool) (S:zA):PV→Option PV
 | .int _ n=>match dst.d with
  | .int k=>some (.int k (k.wrap n))
  | _=>none
 | .str s=>match dst.d with
  | .str=>some (.str s)
  | _=>none
 | y=>match src.d,dst.d,u8 with
  | .slice _,.str,true=>(rowsIn S y).bind fun rows=>(bytesOf rows).map fun l=>.str ⟨l.toArray⟩
  | _,_,_=>none
def vf (ti:TI):Bool :=
 match ti.zero with
 | some z=>z.length == ti.size&&z.all PV.cell
 | none=>false
def yG {α β:Type} (f:α→Option β):List α→Option (List β)
 | []=>some []
 | a::r=>(f a).bind fun b=>(yG f r).map fun l=>b::l
def yu (S:zA):Nat→PV→Option PV
 | 0,_=>none
 | d+1,v =>
  match v with
  | .int .. | .bool _ | .str _ | .cp _=>some v
  | .raw u=>if flat u then some (.raw u) else none
  | .sl rows _=>some (.sl rows false)
  | .msl id off len _=>(rowsIn S (.msl id off len false)).bind fun rows=>(yG (yG (yu S d)) rows).map fun rows=>.sl rows false
  | .mp id i off=>(zz S id).bind fun rows=>if i<rows.length then (yG (yu S d) ((rows.getD i []).drop off)).map .cp else none
  | .fn f [] []=>some (.fn f [] [])
  | _=>none
def yZ (S:zA):PV→Option PV
 | .agg cs=>(yG (yu S 8) cs).map .agg
 | .sl [] true=>some (.sl [] true)
 | v=>yu S 8 v
def ym (S:zA):PV→Option PV
 | .tup vs=>(yG (yZ S) vs).map .tup
 | v=>yZ S v
def yq (S:zA):Nat→List Nat→List Nat
 | 0,ids=>ids
 | d+1,ids=>ids++yq S d (ids.flatMap fun id=>match zz S id with | some rows=>zd rows | none=>[])
def wV (S:zA) (id:Nat):zA :=
 match S[id]? with
 | some (.arr rows g _)=>S.set id (.arr rows g true)
 | _=>S
def zH (S:zA) (ids:List Nat):zA:=ids.foldl wV S
def xn (S:zA):Option (List (List PV) × Option (Option Nat))→zA
 | some (rows,g)=>S++[.arr rows g false]
 | none=>S
abbrev kQ:=FuncId→List PV→Option PV
abbrev zAi:=FuncId→List PV→zA→Option (PV × zA)
def yB (S:zA) (nid:Nat) (n:Nat) (v:PV):Option Out :=
 if v.cells.length=n∧v.cells.all PV.cell then some {v:=.mp nid 0 0,new:=some ([v.cells],none)} else none
def exact:PV→Bool
 | .sl _ ex=>ex
 | .msl _ _ _ ex=>ex
 | _=>false
def yn (ti esz:Nat) (S:zA) (nid:Nat) (x y:PV):Option Out :=
 if exact x=true then (rowsIn S x).bind fun rows=>(rowsS S y).bind fun new =>
   if zq esz rows∧zq esz new∧(rows.length+new.length)*ti≤140737488355328∧rows.length+new.length≤9223372036854775807 then
    (if new.length=0 then (if rows.length=0 then some {v:=.msl nid 0 0 false,new:=some ([],some (some esz))} else some {v:=x})
     else some {v:=.msl nid 0 (rows.length+new.length) false,new:=some (rows++new,some (some esz))})
   else none
 else none
def xd (fs:List (Nat × Nat × Bool)) (ρ : Operand→PV):List PV→List (Nat × Operand)→Option (List PV)
 | cs,[]=>some cs
 | cs,(i,x)::r=>match fs[i]? with
  | some (o,n,_)=>if (ρ x).cells.length=n∧(ρ x).cells.all PV.cell∧o+n≤cs.length then xd fs ρ (cs.take o++(ρ x).cells++cs.drop (o+n)) r else none
  | none=>none
def Ve (k n:Nat):List (Nat × Nat × Bool):=(List.range n).map fun i=>(i*k,k,false)
def ev1 (P:Program) (cp:kQ) (o:Oper) (e:Env) (S:zA) (nid:Nat):Option Out :=
 match o.op with
 | .move x | .assign x=>some {v:=ev e x}
 | .pick c a b=>match ev e c with
  | .bool t=>some {v:=if t then ev e a else ev e b}
  | _=>none
 | .alloc t=>(tyi P t).zero.bind fun z=>if z.all PV.cell then some {v:=.mp nid 0 0,new:=some ([z],none)} else none
 | .box t x=>yB S nid (tyi P t).size (ev e x)
 | .build t parts=>match (tyi P t).d with
  | .struct fs=>(tyi P t).zero.bind fun z=>if z.all PV.cell∧(fs.all fun x=>decide (x.2.1≠0)) then (xd fs (ev e) z parts.toList).map fun cs => {v:=.agg cs} else none
  | .array n el=>(tyi P t).zero.bind fun z=>if z.all PV.cell∧(tyi P el).known=true then (xd (Ve (tyi P el).size n) (ev e) z parts.toList).map fun cs => {v:=.agg cs} else none
  | _=>none
 | .buildSlice t len parts=>match (tyi P t).d with
  | .slice el =>
   let rows:=parts.toList.map fun (_,x)=>(ev e x).cells
   if parts.toList.map (·.1)=List.range len∧zq (tyi P el).size rows∧(rows.all fun r=>r.all PV.cell)∧len*(tyi P el).size≤16777216∧0<(tyi P el).size∧(tyi P el).zero.isSome then
    some {v:=.msl nid 0 len true,new:=some (rows,some (some (tyi P el).size))} else none
  | _=>none
 | .load t a=>(zb (tyi P t) S (ev e a)).map fun v => {v}
 | .nilCheck x=>match ev e x with
  | .mp a b c=>some {v:=.mp a b c}
  | .cp r=>some {v:=.cp r}
  | .fn f a b=>some {v:=.fn f a b}
  | _=>none
 | .binOp op t x y _=>(vw op (tyi P t) y (ev e x) (ev e y)).map fun v => {v}
 | .unOp op _ x=>(K8 op (ev e x)).map fun v => {v}
 | .convert s d x=>if (tyi P s).known then (yS (tyi P s) (tyi P d) (Qh (tyi P (yW (tyi P s)))) S (ev e x)).map fun v => {v} else none
 | .makeFunc (.func f) first caps=>some {v:=.fn f (first.toList.map (ev e)) (caps.toList.map (ev e))}
 | .makeSlice t l c=>match (tyi P t).d,ev e l,ev e c with
  | .slice el,.int _ n,.int _ m=>(tyi P el).zero.bind fun z =>
   if 0≤n∧n≤m∧(tyi P el).bytes*m≤281474976710656∧m≤9223372036854775807∧z.length=(tyi P el).size∧z.all PV.cell then
    some {v:=.msl nid 0 n.toNat (decide (n=m)),new:=some (List.replicate n.toNat z,some (some (tyi P el).size))} else none
  | _,_,_=>none
 | .slice t x lo hi mx=>if wT (tyi P t)=true∧(tyi P (yW (tyi P t))).known=false then none else (vm (tyi P t) (tyi P (yW (tyi P t))).size S (ev e x) (lo.map (ev e)) (hi.map (ev e)) (mx.map (ev e))).map fun v => {v}
 | .fieldAddr t x f=>(zF (tyi P t) f (ev e x)).map fun v => {v}
 | .field t x f=>(zT (tyi P t) f (ev e x)).map fun v => {v}
 | .indexAddr t x i=>if wT (tyi P t)=true∧(tyi P (yW (tyi P t))).known=true then (xb (tyi P (yW (tyi P t))).size S (ev e x) (ev e i)).map fun v => {v} else none
 | .index t x i=>match (tyi P t).d with
  | .array n el=>if (tyi P el).known then (wU {d:=.array n el,size:=(tyi P t).size,bytes:=0,zero:=none} (tyi P el).size (tyi P el).isAgg (ev e x) (ev e i)).map fun v => {v} else none
  | .str=>(wU {d:=.str,size:=0,bytes:=0,zero:=none} 0 false (ev e x) (ev e i)).map fun v => {v}
  | _=>none
 | .extract x i=>match ev e x with
  | .tup vs=>(vs[i]?).map fun v => {v}
  | _=>none
 | .call c=>match c.callee with
  | .builtin .len=>match c.argTypes[0]?,c.args[0]? with
   | some t,some x=>(YJ (tyi P t) (ev e x)).map fun v => {v}
   | _,_=>none
  | .builtin .max=>match c.args.toList.map (ev e) with
   | [.int k a,.int _ b]=>some {v:=.int k (if b > a then b else a)}
   | _=>none
  | .builtin .min=>match c.args.toList.map (ev e) with
   | [.int k a,.int _ b]=>some {v:=.int k (if b<a then b else a)}
   | _=>none
  | .builtin .append=>match c.argTypes[0]?,c.argTypes[1]?,c.args.toList with
   | some t,some u,[x,y]=>match (tyi P t).d with
    | .slice el=>if Zi (tyi P u).d=true∧vf (tyi P el)=true then yn (tyi P el).bytes (tyi P el).size S nid (ev e x) (ev e y) else none
    | _=>none
   | _,_,_=>none
  | .value f=>match ev e f with
   | .fn f first caps=>if (yq S 8 ((first++c.args.toList.map (ev e)++caps).flatMap PV.refs)).all (fun i=>decide (i<S.length)) then
     (yG (ym S) (first++c.args.toList.map (ev e)++caps)).bind fun args=>(cp f args).map fun v =>
     {v,fz:=yq S 8 ((first++c.args.toList.map (ev e)++caps).flatMap PV.refs)} else none
   | _=>none
  | _=>none
 | _=>none
structure LoopHint where
 live:List Nat
 after:List Nat
 own:List Nat:=[]
 fz:List Nat:=[]
structure Hint where
 keep:List Nat
 loops:List (Nat × LoopHint):=[]
 regs:List (Nat × List Nat):=[]
def Hint.at (h:Hint) (id:Nat):List Nat:=(h.regs.lookup id).getD h.keep
structure Hints where
 refs:FuncId→Bool
 of:FuncId→Hint
 reads:FuncId→Bool:=fun _=>false
 orc:FuncId→Option (List PV→Option PV):=fun _=>none
def zEI (args:List PV):Bool:=args.all fun a=>a.refs.isEmpty
structure Ctx where
 P:Program
 H:Hints
 cp:kQ
 cr:zAi
 base:Nat
 h:Hint
structure Eff where
 v:PV
 S:zA
 kill:List Nat:=[]
def yN (H:Hints) (o:Oper) (e:Env):Bool :=
 match o.op with
 | .store .. => true
 | .call c=>match c.callee with
  | .builtin .append=>match c.args[0]? with | some x => !exact (ev e x) | none=>true
  | .builtin .copy=>true
  | .value (.func f)=>H.refs f
  | .value _=>true
  | _=>false
 | _=>false
def wH (row:List PV) (off:Nat) (cs:List PV):List PV :=
 if off=0∧cs.length=row.length then cs else row.take off++cs++row.drop (off+cs.length)
def yr (n:Nat) (S:zA) (a v:PV):Option zA :=
 match a with
 | .mp id i off=>match S[id]? with
  | some (.arr rows g false) =>
   if i<rows.length∧off+n≤(rows.getD i []).length∧v.cells.length=n∧v.cells.all PV.cell then some (S.set id (.arr (rows.set i (wH (rows.getD i []) off v.cells)) g false)) else none
  | _=>none
 | _=>none
def xU (ids:List Nat) (v:PV):PV:=if v.refs.any fun i=>ids.contains i then .undef else v
def uH (ids:List Nat) (e:Env):Env:=if ids=[] then e else e.map fun (t,v)=>(t,xU ids v)
def xG (ids:List Nat) (rows:List (List PV)):List (List PV):=if (zd rows).any fun i=>ids.contains i then rows.map fun r=>r.map (xU ids) else rows
def yF (ids:List Nat):Obj→Obj
 | .arr rows g f=>.arr (xG ids rows) g f
 | .gone=>.gone
def vE (base bytes esz:Nat) (S:zA) (x y:PV):Option Eff :=
 match x with
 | .msl id 0 len _=>match S[id]? with
  | some (.arr rows (some g) false)=>(rowsS S y).bind fun new =>
   if base≤id∧len=rows.length∧(g=none∨g=some esz)∧zq esz rows∧zq esz new∧(rows.length+new.length)*bytes≤140737488355328∧rows.length+new.length≤9223372036854775807∧((zd rows++zd new).contains id)=false then
    some {v:=.msl id 0 (rows.length+new.length) false,S:=(S.map (yF [id])).set id (.arr (rows++new) (some (some esz)) false),kill:=[id]} else none
  | _=>none
 | _=>none
def wW (id:Nat) (S:zA) (r:Eff):Eff :=
 {v:=(match r.v with | .msl _ o l ex=>.msl S.length o l ex | v=>v),S:=(r.S.set id .gone)++[r.S.getD id .gone],kill:=r.kill}
def vz (base bytes esz:Nat) (S:zA) (x y:PV):Option Eff :=
 match x with
 | .msl id _ _ _=>if base≤id then vE base bytes esz S x y else (vE 0 bytes esz S x y).map (wW id S)
 | _=>none
def jo (esz:Nat) (S:zA) (x y:PV):Option Eff :=
 match x with
 | .msl id off len _=>match S[id]? with
  | some (.arr rows g false)=>(rowsIn S y).bind fun src =>
   if off+len≤rows.length∧zq esz rows∧zq esz src then
    some {v:=.int .i64 (min src.length len:Nat),S:=S.set id (.arr (rows.take off++src.take len++rows.drop (off+min src.length len)) g false)} else none
  | _=>none
 | _=>none
def jp (n:Nat) (vs:List PV):Bool:=(xa vs).all fun i=>decide (i<n)
def uI (S:zA):Bool:=S.all fun | .arr rows _ _=>(zd rows).all (fun i=>decide (i<S.length)) | .gone=>true
def Vf (b:Bool) (S S':zA):Prop:=b=true→S'.take S.length=S
noncomputable instance (b:Bool) (S S':zA):Decidable (Vf b S S'):=if h:b=true then Classical.propDecidable _ else .isTrue fun h'=>absurd h' h
noncomputable def ev2 (C:Ctx) (o:Oper) (e:Env) (S:zA):Option Eff :=
 match o.op with
 | .store t a v=>if (tyi C.P t).known then (yr (tyi C.P t).size S (ev e a) (ev e v)).map fun S => {v:=.skip,S} else none
 | .call c=>match c.callee with
  | .builtin .append=>match c.argTypes[0]?,c.argTypes[1]?,c.args.toList with
   | some t,some u,[x,y]=>match (tyi C.P t).d with
    | .slice el=>if Zi (tyi C.P u).d=true∧vf (tyi C.P el)=true then vz C.base (tyi C.P el).bytes (tyi C.P el).size S (ev e x) (ev e y) else none
    | _=>none
   | _,_,_=>none
  | .builtin .copy=>match c.argTypes[0]?,c.argTypes[1]?,c.args.toList with
   | some t,some u,[x,y]=>match (tyi C.P t).d,(tyi C.P u).d with
    | .slice el,.slice _=>if (tyi C.P el).known then jo (tyi C.P el).size S (ev e x) (ev e y) else none
    | _,_=>none
   | _,_,_=>none
  | .value f=>match ev e f with
   | .fn f first caps =>
    let aS:=first++c.args.toList.map (ev e)++caps
    if C.H.refs f then (C.cr f aS S).bind fun (v,S')=>if S.length≤S'.length∧uI S=true∧jp S.length aS=true∧Vf (C.H.reads f) S S' then some {v,S:=S'} else none
    else (yG (ym S) aS).bind fun args=>(C.cp f args).map fun v => {v,S:=zH S (yq S 8 (aS.flatMap PV.refs))}
   | _=>none
  | _=>none
 | _=>none
def xP (ops:Array Oper) (e:Env) (o:Oper):Option Bool :=
 match o.guard with
 | none=>some true
 | some (j,want)=>match (ops[j]?).bind (·.dst) with
  | some t=>match get e t with
   | .bool b=>some (b == want)
   | .skip=>some false
   | _=>none
  | none=>some false
noncomputable def xH (C:Ctx) (ops:Array Oper) (o:Oper) (e:Env) (S:zA):Option (Env × zA) :=
 (xP ops e o).bind fun w =>
  if w then
   (if yN C.H o e then (ev2 C o e S).map fun r=>(putD (uH r.kill e) o.dst r.v,r.S)
    else (ev1 C.P C.cp o e S S.length).map fun r=>(putD e o.dst r.v,xn (zH S r.fz) r.new))
  else some (putD e o.dst .skip,S)
noncomputable def yi (C:Ctx) (ops:Array Oper):List Oper→Env→zA→Option (Env × zA)
 | [],e,S=>some (e,S)
 | o::r,e,S=>(xH C ops o e S).bind fun (e,S)=>yi C ops r e S
def kind (H:Hints) (o:Oper) (e:Env):Nat :=
 if yN H o e then (match o.op with
  | .store .. => 3
  | .call c=>(match c.callee with
   | .value f=>(match ev e f with | .fn g _ _=>if H.refs g then (if H.reads g then 6 else 5) else 4 | _=>4)
   | _=>4)
  | _=>4) else
 match o.op with
 | .move _ | .assign _ | .pick .. | .binOp .. | .unOp .. | .extract .. | .field .. | .index .. | .makeFunc .. | .build .. | .fieldAddr .. | .nilCheck _=>0
 | .alloc _ | .box .. | .buildSlice .. | .makeSlice .. => 2
 | _=>1
def kZ (o:Oper):Bool:=match o.op with | .load .. => true | _=>false
def zDh (kp ko:Nat) (p:Oper):Bool :=
 if kp=4∨ko=4 then false
 else if kp=5∨kp=6 then ko == 2
 else if ko=5 then kp == 0
 else if ko=6 then kp == 0||(kp == 1&&kZ p)
 else !(kp == 3&&(ko == 1||ko == 3)) && !(ko == 3&&kp == 1)
def ZG (ops:Array Oper) (kp ko:Nat) (p o:Oper):Bool:=Oper.apart ops p o&&zDh kp ko p
def yl (o:Oper) (e:Env):Nat:=match o.op with
 | .store _ a _=>(match ev e a with | .mp id _ _=>id+1 | _=>0)
 | .indexAddr _ x _=>(match ev e x with | .msl id _ _ _=>id+1 | _=>0)
 | _=>0
def zCb (kp ko tp to:Nat):Bool:=(kp == 1||kp == 3)&&(ko == 1||ko == 3) && !(tp == 0) && !(to == 0) && !(tp == to)
def wY (ops:Array Oper) (k:Nat→Nat):Bool :=
 let b:=Region.before ops
 (List.range ops.size).all fun j=>match ops[j]? with
  | none=>true
  | some o=>(o.after.all fun e => !Region.binds .any e||decide (e.on<j)) &&
   (List.range j).all fun i=>match ops[i]? with
    | none=>true
    | some p=>(b.getD j 0).testBit i||(ZG ops (k i % 8) (k j % 8) p o||(Oper.apart ops p o&&zCb (k i % 8) (k j % 8) (k i / 8) (k j / 8)))
def zFf (o:Oper):Bool :=
 match o.op with
 | .call c=>(match c.callee with | .builtin .len | .builtin .max | .builtin .min=>true | _=>false)
 | _=>true
def qK (ops:Array Oper) (t:Nat):Nat→Bool
 | 0=>false
 | j+1=>match ops[j]? with
  | none=>false
  | some p=>if p.dst=some t then (p.guard.isNone&&(match p.op with | .buildSlice .. => true | .slice _ _ _ _ mx=>mx.isSome | _=>false)) else (zFf p&&qK ops t j)
def uT (H:Hints) (ops:Array Oper) (j:Nat):Nat :=
 match ops[j]? with
 | some o=>(match o.op with
  | .call c=>(match c.callee with
   | .builtin .append=>(match c.args[0]? with | some (Operand.const _)=>kind H o [] | some (Operand.tmp t)=>(if qK ops t j=true then 1 else 4) | _=>4)
   | _=>kind H o [])
  | _=>kind H o [])
 | none=>0
noncomputable def yj (C:Ctx) (ops:Array Oper):List Oper→Env→zA→List Nat
 | [],_,_=>[]
 | o::r,e,S=>(kind C.H o e+8*yl o e)::(match xH C ops o e S with | some (e,S)=>yj C ops r e S | none=>[])
noncomputable def yd (C:Ctx) (ops:Array Oper) (draw:Bool) (e:Env) (S:zA):Option (Env × zA) :=
 if draw then (if wY ops (uT C.H ops)||wY ops (fun j=>(yj C ops ops.toList e S).getD j 0) then yi C ops ops.toList e S else none) else yi C ops ops.toList e S
inductive X where
 | normal | exit (id:Nat) | ret
 deriving DecidableEq
def Xe {α:Type} (v:PV) (x y:Option α):Option α :=
 match v with
 | .bool t=>if t then x else y
 | _=>none
def keepOnly (live:List Nat) (e:Env):Env:=e.map fun (t,v)=>if live.contains t then (t,v) else (t,.undef)
def gc (n:Nat) (e:Env) (S:zA):zA :=
 if (e.all fun (_,v)=>v.refs.all fun i=>decide (i<n))∧((S.take n).all fun | .arr rows _ _=>(zd rows).all fun i=>decide (i<n) | .gone=>true) then S.take n else S
def ownCell (S:zA) (id i j:Nat):zA :=
 match S[id]? with
 | some (.arr rows g f)=>(match (rows.getD i [])[j]? with
  | some (.sl [] true)=>S.set id (.arr (rows.set i ((rows.getD i []).set j (.msl S.length 0 0 false))) g f)++[.arr [] (some none) false]
  | some (.msl a o l true)=>S.set id (.arr (rows.set i ((rows.getD i []).set j (.msl a o l false))) g f)
  | _=>S)
 | _=>S
def ownMem (S:zA) (x:PV) (j:Nat):zA :=
 match x with
 | .mp id i off=>ownCell S id i (off+j)
 | .msl id off len _=>(List.range len).foldl (fun S k=>ownCell S id (off+k) j) S
 | _=>S
def own1 (e:Env) (S:zA) (t:Nat):Env × zA :=
 if t<1000 then (match get e t with
 | .sl [] true=>(put e t (.msl S.length 0 0 false),S++[.arr [] (some none) false])
 | .msl id off len true=>(put e t (.msl id off len false),S)
 | _=>(e,S))
 else (e,ownMem S (get e (t % 1000)) (t / 1000-1))
def ownAll (ts:List Nat) (e:Env) (S:zA):Env × zA:=ts.foldl (fun (e,S) t=>own1 e S t) (e,S)
def fzSlot (e:Env) (S:zA) (t:Nat):Option (Env × zA) :=
 (ym S (get e t)).map fun v=>(put e t v,zH S (yq S 8 (get e t).refs))
def fzSlots:List Nat→Env→zA→Option (Env × zA)
 | [],e,S=>some (e,S)
 | t::r,e,S=>(fzSlot e S t).bind fun (e,S)=>fzSlots r e S
def vV (live fz:List Nat) (n:Nat) (e:Env) (S:zA):Option (Env × zA):=(fzSlots fz (keepOnly live e) S).map fun r=>(r.1,gc n r.1 r.2)
def YK (b n:Nat) (after:List Nat) (q:X × Env × zA):X × Env × zA :=
 if q.1=.exit b then (q.1,keepOnly after q.2.1,gc n (keepOnly after q.2.1) q.2.2) else q
def vX (body:Env→zA→Option (X × Env × zA)) (norm:Env→zA→Option (Env × zA)):Nat→Env→zA→Option (X × Env × zA)
 | 0,_,_=>none
 | n+1,e,S=>(body e S).bind fun (x,e,S) =>
  match x with
  | .normal=>(norm e S).bind fun (e,S)=>vX body norm n e S
  | x=>some (x,e,S)
noncomputable def yx (C:Ctx) (k:Nat):Nat→Code→Env→zA→Option (X × Env × zA)
 | _,.skip,e,S=>some (.normal,e,S)
 | _,.region id ops draw,e,S=>(yd C ops draw e S).map fun (e,S)=>(.normal,trim (C.h.at id) e,S)
 | b,.seq x y,e,S=>(yx C k b x e S).bind fun (r,e,S) =>
  match r with
  | .normal=>yx C k b y e S
  | r=>some (r,e,S)
 | b,.cond c x y,e,S=>Xe (ev e c) (yx C k b x e S) (yx C k b y e S)
 | _,.block id body,e,S=>(yx C k id body e S).map fun (r,e,S)=>(if r=.exit id then .normal else r,e,S)
 | b,.loop body,e,S =>
  (C.h.loops.lookup b).bind fun h =>
  (fzSlots h.fz (ownAll h.own (keepOnly h.live e) S).1 (ownAll h.own (keepOnly h.live e) S).2).bind fun r =>
  (vX (yx C k b body) (vV h.live h.fz r.2.length) k r.1 r.2).map (YK b r.2.length h.after)
 | _,.exit id,e,S=>some (.exit id,e,S)
 | _,.ret,e,S=>some (.ret,e,S)
 | _,_,_,_=>none
def xt (nt:Nat):Code→Bool
 | .region _ ops _=>ops.all fun o=>match o.dst with | some d=>decide (d<nt) | none=>true
 | .seq x y=>xt nt x&&xt nt y
 | .cond _ x y=>xt nt x&&xt nt y
 | .block _ x=>xt nt x
 | .loop x=>xt nt x
 | _=>true
def xu (P:Program) (e:Env) (S:zA):ResultVar→Option PV
 | .tmp t=>some (get e t)
 | .cell a t=>zb (tyi P t) S (get e a)
def wA (P:Program) (fn:Func) (e:Env) (S:zA):Option PV :=
 (yG (xu P e S) fn.results.toList).map fun vs=>match vs with | [v]=>v | vs=>.tup vs
noncomputable def vC (P:Program) (H:Hints):Nat→FuncId→List PV→zA→Option (PV × zA)
 | 0,_,_,_=>none
 | k+1,f,args,S=>match H.orc f with
  | some g=>if zEI args=true then (g args).map fun v=>(v,S) else none
  | none=>match P.funcs[f]? with
  | some fn=>match fn.body with
   | some c =>
    if args.length ≤ fn.ntmps ∧ fn.name ≠ "runtime.NumGoroutine" ∧ xt fn.ntmps c = true then
     (yx {P,H,cp:=fun g aS=>(vC P H k g aS []).bind fun (r,S)=>ym S r,cr:=vC P H k,base:=S.length,h:=H.of f} k 0 c ((List.range args.length).zip args) S).bind fun (r,e,S) =>
      match r with
      | .exit _=>none
      | _=>(wA P fn e S).map fun v=>(v,S)
    else none
   | none=>none
  | none=>none
noncomputable def uU (P:Program) (H:Hints) (k:Nat) (f:FuncId) (args:List PV):Option PV :=
 (vC P H k f args []).bind fun (r,S)=>ym S r
end Go.Vs
end
section
namespace Go.Vs
open Go
theorem Zu (a:Addr) (m n:Nat):(a.add m).add n=a.add (m+n):=by
 unfold Addr.add;by_cases hm:m=0
 ·subst hm;simp
 ·by_cases hn:n=0
  ·subst hn;simp
  ·simp[hm,hn,aN]
theorem wB (g o j:Nat):(⟨g,o,none⟩:Addr).add j=⟨g,o+j,none⟩:=by
 unfold Addr.add;split <;> simp_all
theorem vF (a:Addr) (n:Nat):(a.add n).block=a.block:=by unfold Addr.add;split <;> rfl
structure Blk where
 b:Nat
 sz:Nat
 tot:Nat
abbrev Mu:=Nat→Option Blk
structure Arr where
 rows:List (List PV)
 g:Option (Option Nat)
 f:Bool
abbrev yT:=Nat→Option Arr
def arrs (S:zA):yT:=fun id=>match S[id]? with
 | some (.arr rows g f)=>some ⟨rows,g,f⟩
 | _=>none
section
variable (w:World) (av:Nat→Prop)
inductive FR:PV→Value→Prop
 | int (k:IntKind) (n:Int):FR (.int k n) (.int k n)
 | bool (b:Bool):FR (.bool b) (.bool b)
 | str (s:ByteArray):FR (.str s) (.string s)
 | raw (v:Value) (h:flat v=true):FR (.raw v) v
 | sl (rows:List (List PV)) (ex:Bool) (a:Option Addr) (cap:Nat) (ad:Addr) (sz:Nat) (c:Nat→Nat→Value)
   (hcap:rows.length≤cap) (hex:ex=true→cap=rows.length) (ha:a=none→cap=0) (had:rows≠[]→a=some ad)
   (hsz : ∀r∈rows,r.length=sz)
   (hc : ∀i row j pv,rows[i]? = some row→row[j]? = some pv→w.cell? (ad.add (i*sz+j))=some (c i j)∧¬av ad.block)
   (hr : ∀i row j pv,rows[i]? = some row→row[j]? = some pv→FR pv (c i j)):FR (.sl rows ex) (.slice a rows.length cap)
 | cp (row:List PV) (ad:Addr) (c:Nat→Value)
   (hc : ∀j pv,row[j]? = some pv→w.cell? (ad.add j)=some (c j)∧¬av ad.block)
   (hr : ∀j pv,row[j]? = some pv→FR pv (c j)):FR (.cp row) (.pointer (some ad))
 | fn (f:FuncId):FR (.fn f [] []) (.func (.func f) #[] #[])
theorem FR.flat {pv:PV} {v:Value} (h:FR w av pv v):flat v=true:=by cases h <;> first | rfl | assumption
variable (μ : Mu)
inductive VR:PV→Value→Prop
 | fr {pv:PV} {v:Value} (h:FR w av pv v):VR pv v
 | undef (v:Value):VR .undef v
 | skip:VR .skip Go.undef
 | raw (v:Value):VR (.raw v) v
 | msl (id off len:Nat) (ex:Bool) (ad:Addr) (cap:Nat) (b:Blk) (hμ : μ id=some b) (hlen:len≤cap) (htot:(off+cap)*b.sz≤b.tot)
   (hex:ex=true→cap=len) (had:0<cap→ad=⟨b.b,off*b.sz,none⟩):VR (.msl id off len ex) (.slice (some ad) len cap)
 | mslNil (id:Nat) (ex:Bool) (a:Option Addr):VR (.msl id 0 0 ex) (.slice a 0 0)
 | mp (id i off:Nat) (b:Blk) (hμ : μ id=some b):VR (.mp id i off) (.pointer (some ⟨b.b,i*b.sz+off,none⟩))
 | agg (cells:List PV) (cs:Array Value) (hn:cells.length=cs.size) (hf : ∀(j:Nat) (v:Value),cs[j]? = some v→Vs.flat v=true)
   (hr : ∀(j:Nat) (pv:PV) (v:Value),cells[j]? = some pv→cs[j]? = some v→VR pv v):VR (.agg cells) (.agg cs)
 | tup (vs:List PV) (us:Array Value) (hn:vs.length=us.size) (hr : ∀(j:Nat) (pv:PV) (v:Value),vs[j]? = some pv→us[j]? = some v→VR pv v):VR (.tup vs) (.tuple us)
 | fn (f:FuncId) (x y:List PV) (u v:Array Value) (hx:x.length=u.size) (hy:y.length=v.size)
   (rx : ∀(j:Nat) (pv:PV) (v:Value),x[j]? = some pv→u[j]? = some v→VR pv v) (ry : ∀(j:Nat) (pv:PV) (v':Value),y[j]? = some pv→v[j]? = some v'→VR pv v'):VR (.fn f x y) (.func (.func f) u v)
end
theorem VR.flat_of_cell {w:World} {av:Nat→Prop} {μ : Mu} {pv:PV} {v:Value} (h:VR w av μ pv v) (hc:pv.cell=true):flat v=true:=by
 cases h with
 | fr h=>exact FR.flat w av h
 | raw=>simpa [PV.cell] using hc
 | msl=>rfl
 | mslNil=>rfl
 | mp=>rfl
 | fn=>rfl
 | undef=>simp[PV.cell]at hc
 | skip=>simp[PV.cell]at hc
 | agg=>simp[PV.cell]at hc
 | tup=>simp[PV.cell]at hc
def xp (w:World) (av:Nat→Prop) (w':World) (av':Nat→Prop):Prop :=
 ∀a u,w.cell? a=some u→¬av a.block→w'.cell? a=some u∧¬av' a.block
theorem xp.refl (w:World) (av:Nat→Prop):xp w av w av:=fun _ _ h k=>⟨h,k⟩
theorem xp.trans {w w1 w2:World} {av av1 av2:Nat→Prop} (h:xp w av w1 av1) (k:xp w1 av1 w2 av2):xp w av w2 av2 :=
 fun a u h1 h2=>let ⟨x,y⟩:=h a u h1 h2;k a u x y
theorem xp.less {w:World} {av av':Nat→Prop} (h : ∀b,av' b→av b):xp w av w av':=fun _ _ h1 h2=>⟨h1,fun h3=>h2 (h _ h3)⟩
theorem FR.mono {w w':World} {av av':Nat→Prop} (hk:xp w av w' av') {pv:PV} {v:Value} (h:FR w av pv v):FR w' av' pv v:=by
 induction h with
 | int k n=>exact .int k n
 | bool b=>exact .bool b
 | str s=>exact .str s
 | raw v h=>exact .raw v h
 | sl rows ex a cap ad sz c hcap hex ha had hsz hc hr ih =>
  refine .sl rows ex a cap ad sz c hcap hex ha had hsz (fun i row j pv h1 h2=>?_) ih;have:=hc i row j pv h1 h2;have:=hk _ _ this.1 (by rw[vF];exact this.2)
  rwa [vF]at this
 | cp row ad c hc hr ih =>
  refine .cp row ad c (fun j pv h1=>?_) ih;have:=hc j pv h1;have:=hk _ _ this.1 (by rw[vF];exact this.2)
  rwa [vF]at this
 | fn f=>exact .fn f
theorem xi {l:List PV} {j:Nat} {pv:PV} (h:l[j]? = some pv) {i:Nat} (hi:i∈pv.refs):i∈xa l:=by
 induction l generalizing j with
 | nil=>simp at h
 | cons a r ih =>
  simp only[xa,sB];cases j with
  | zero=>simp at h;subst h;exact .inl hi
  | succ j=>simp at h;exact .inr (ih h)
theorem VR.mono {w w':World} {av av':Nat→Prop} {μ μ':Mu} (hk:xp w av w' av') {pv:PV} {v:Value} (h:VR w av μ pv v)
  (hμ : ∀i∈pv.refs,∀b,μ i=some b → μ' i=some b):VR w' av' μ' pv v:=by
 induction h with
 | fr h=>exact .fr (h.mono hk)
 | undef v=>exact .undef v
 | skip=>exact .skip
 | raw v=>exact .raw v
 | msl id off len ex ad cap b hm hlen htot hex had=>exact .msl id off len ex ad cap b (hμ id (by simp[PV.refs]) b hm) hlen htot hex had
 | mslNil id ex a=>exact .mslNil id ex a
 | mp id i off b hm=>exact .mp id i off b (hμ id (by simp[PV.refs]) b hm)
 | agg cells cs hn hf hr ih=>exact .agg cells cs hn hf fun j pv v h1 h2=>ih j pv v h1 h2 fun i hi=>hμ i (by simp only[PV.refs];exact xi h1 hi)
 | tup vs us hn hr ih=>exact .tup vs us hn fun j pv v h1 h2=>ih j pv v h1 h2 fun i hi=>hμ i (by simp only[PV.refs];exact xi h1 hi)
 | fn f x y u v hx hy rx ry ihx ihy =>
  exact .fn f x y u v hx hy (fun j pv v h1 h2=>ihx j pv v h1 h2 fun i hi=>hμ i (by simp only[PV.refs,sB];exact .inl (xi h1 hi)))
   (fun j pv v h1 h2=>ihy j pv v h1 h2 fun i hi=>hμ i (by simp only[PV.refs,sB];exact .inr (xi h1 hi)))
def Mut (A:yT) (μ : Mu) (b:Nat):Prop:=∃id rows g k,A id=some ⟨rows,g,false⟩ ∧ μ id=some k∧k.b=b
def Av (X:Nat→Prop) (A:yT) (μ : Mu) (b:Nat):Prop:=X b∨Mut A μ b
structure SR (w:World) (X:Nat→Prop) (A:yT) (n:Nat) (μ : Mu):Prop where
 lt : ∀id,n≤id → μ id=none∧A id=none
 blk : ∀id a,A id=some a→∀b,μ id=some b→∃c el,w.heap[b.b]? = some (.cells c el (0,0))∧c.size=b.tot∧a.rows.length*b.sz≤b.tot ∧
   (∀r∈a.rows,r.length=b.sz) ∧
   ∀i row j pv,a.rows[i]? = some row→row[j]? = some pv→∃v,c[i*b.sz+j]? = some v∧flat v=true∧VR w (Av X A μ) μ pv v
 nob : ∀id a,A id=some a → μ id=none→a.rows=[]
 gsz : ∀id a,A id=some a→(a.g=some none → μ id=none)∧∀k,a.g=some (some k)→∀b,μ id=some b→b.sz=k
 inj : ∀id id' a a' b b',A id=some a→A id'=some a' → μ id=some b → μ id'=some b'→b.b=b'.b→id=id'
 out : ∀id a b,A id=some a → μ id=some b→¬X b.b
 xlt : ∀b,X b→b<w.heap.size
structure Tr (base:Nat) (w:World) (A:yT) (μ : Mu) (w':World) (A':yT) (μ':Mu):Prop where
 os:w'.os=w.os
 tape:w'.tape=w.tape
 output:w'.output=w.output
 size:w.heap.size≤w'.heap.size
 keep : ∀b,b<w.heap.size→¬Mut A μ b→w'.heap[b]? = w.heap[b]?
 less : ∀b,b<w.heap.size→Mut A' μ' b→Mut A μ b
 mu : ∀id,id<base → μ' id = μ id
theorem Tr.refl (base:Nat) (w:World) (A:yT) (μ : Mu):Tr base w A μ w A μ := ⟨rfl,rfl,rfl,bB _,fun _ _ _=>rfl,fun _ _ h=>h,fun _ _=>rfl⟩
theorem Tr.trans {base:Nat} {w w1 w2:World} {A A1 A2:yT} {μ μ1 μ2:Mu} (h:Tr base w A μ w1 A1 μ1) (k:Tr base w1 A1 μ1 w2 A2 μ2):Tr base w A μ w2 A2 μ2 :=
 ⟨k.os.trans h.os,k.tape.trans h.tape,k.output.trans h.output,bF h.size k.size,
  fun b hb hm=>(k.keep b (aV hb h.size) fun h1=>hm (h.less b hb h1)).trans (h.keep b hb hm),
  fun b hb hm=>h.less b hb (k.less b (aV hb h.size) hm),fun id hi=>(k.mu id hi).trans (h.mu id hi)⟩
theorem zAj {w:World} {a:Addr} {u:Value} (h:w.cell? a=some u):a.block<w.heap.size:=by
 unfold World.cell? at h
 cases hh:w.heap[a.block]? with
 | none=>rw[hh]at h;simp at h
 | some o=>exact (pR.1 hh).1
theorem W9 {w w':World} {a:Addr} (h:w'.heap[a.block]? = w.heap[a.block]?):w'.cell? a=w.cell? a:=by unfold World.cell?;rw[h]
theorem Tr.keeps {base:Nat} {w w':World} {X:Nat→Prop} {A A':yT} {μ μ':Mu} (h:Tr base w A μ w' A' μ'):xp w (Av X A μ) w' (Av X A' μ'):=by
 intro a u h1 h2;have hl:=zAj h1;have h3 : ¬Mut A μ a.block:=fun x=>h2 (.inr x);refine⟨by rw[W9 (h.keep _ hl h3)];exact h1,fun hx=>?_⟩
 rcases hx with hx | hx
 ·exact h2 (.inl hx)
 ·exact h3 (h.less _ hl hx)
end Go.Vs
end
section
namespace Go.Vs
open Go
theorem uq {v:Value} (h:flat v=true):v.oneCell'=true:=by cases v <;> simp_all [flat,Value.oneCell']
theorem xj {P:Program} {t:TypeId} (h:(tyi P t).known=true) : ∃d i,P.underlying t=some d∧P.info? t=some i∧i.size=(tyi P t).size∧i.bytes=(tyi P t).bytes:=by
 have h':(P.underlying t).isSome=true:=h;obtain⟨d,hd⟩:=Option.isSome_iff_exists.1 h'
 cases hi:P.info? t with
 | none=>simp[Program.underlying,hi]at hd
 | some i=>exact⟨d,i,hd,rfl,by simp[tyi,Program.cellsOf,hi],by simp[tyi,Program.bytesOf,hi]⟩
theorem ye {P:Program} {t e:TypeId} (h:(tyi P t).d=.slice e):P.underlying t=some (.slice e):=by
 unfold tyi at h
 revert h
 cases P.underlying t with
 | none=>simp
 | some d=>cases d <;> simp
theorem ur {P:Program} {t:TypeId} (h:(tyi P t).d=.str):P.underlying t=some .string:=by
 unfold tyi at h
 revert h
 cases P.underlying t with
 | none=>simp
 | some d=>cases d <;> simp
theorem zAk {P:Program} {t:TypeId} (h:(tyi P t).d=.bool):P.underlying t=some .bool:=by
 unfold tyi at h
 revert h
 cases P.underlying t with
 | none=>simp
 | some d=>cases d <;> simp
theorem Wa {P:Program} {t:TypeId} {k:IntKind} (h:(tyi P t).d=.int k):P.underlying t=some (.int k):=by
 unfold tyi at h
 revert h
 cases P.underlying t with
 | none=>simp
 | some d=>cases d <;> simp
theorem jq {P:Program} {t:TypeId} {fs:List (Nat × Nat × Bool)} (h:(tyi P t).d=.struct fs) : ∃gs:Array Field,P.underlying t=some (.struct gs)∧fs=gs.toList.map fun f=>(f.offset,qI P f.type,uo P f.type):=by
 unfold tyi at h
 revert h
 cases P.underlying t with
 | none=>simp
 | some d=>cases d <;> simp <;> (intro h;exact h.symm)
theorem YL {P:Program} {t:TypeId} (h:qI P t≠0) : ∃d i,P.underlying t=some d∧P.info? t=some i∧i.size=qI P t:=by
 unfold qI at *;by_cases hk:(P.underlying t).isSome=true
 ·rw[hZ hk]at h ⊢;obtain⟨d,i,hd,hi,hs,_⟩:=xj (P:=P) (t:=t) (by simpa [tyi] using hk);exact⟨d,i,hd,hi,hs⟩
 ·rw[hI hk]at h;exact absurd rfl h
theorem Xf {P:Program} {t e:TypeId} {n:Nat} (h:(tyi P t).d=.array n e):P.underlying t=some (.array n e):=by
 unfold tyi at h
 revert h
 cases P.underlying t with
 | none=>simp
 | some d=>cases d <;> simp
theorem Vg {P:Program} {t:TypeId} : (tyi P t).isAgg=uo P t:=by
 unfold tyi TI.isAgg uo;cases P.underlying t with
 | none=>simp
 | some d=>cases d <;> simp
theorem uV {P:Program} {t:TypeId} {d:TypeDesc} (h:P.underlying t=some d) (w:World):(isAgg t).run P w=.ok (uo P t) w:=by
 simp only[isAgg,bQ,run_underlying h,bX,uo,h]
 cases d <;> rfl
theorem yf {P:Program} {t:TypeId} {i:TypeInfo} (h:P.info? t=some i) (w:World):(sizeOf t).run P w=.ok i.size w:=by
 simp[sizeOf,typeInfo,h]
section
variable {P:Program} {w:World} {av:Nat→Prop} {μ : Mu}
theorem VR.int_inv {k:IntKind} {n:Int} {v:Value} (h:VR w av μ (.int k n) v):v=.int k n:=by cases h with | fr h=>cases h;rfl
theorem VR.bool_inv {b:Bool} {v:Value} (h:VR w av μ (.bool b) v):v=.bool b:=by cases h with | fr h=>cases h;rfl
theorem VR.str_inv {s:ByteArray} {v:Value} (h:VR w av μ (.str s) v):v=.string s:=by cases h with | fr h=>cases h;rfl
theorem VR.i {k:IntKind} {n:Int} : VR w av μ (.int k n) (.int k n):=.fr (.int k n)
theorem VR.b {b:Bool} : VR w av μ (.bool b) (.bool b):=.fr (.bool b)
theorem VR.s {s:ByteArray} : VR w av μ (.str s) (.string s):=.fr (.str s)
theorem qL (v:Value) (hf:flat v=true):VR w av μ (W7 v) v:=by
 unfold W7
 split
 ·exact .i
 ·exact .b
 ·exact .s
 ·exact .fr (.sl [] true none 0 default 0 (fun _ _=>Go.undef) (bB _) (fun _=>rfl) (fun _=>rfl) (fun h=>absurd rfl h) (by simp) (by simp) (by simp))
 ·rename_i f first caps
  split
  ·rename_i h;have h1:first = #[]:=BN h.1
   have h2:caps = #[]:=BN h.2;subst h1;subst h2;exact .fr (.fn f)
  ·exact .raw _
 ·exact .raw _
theorem xk (v:Value):VR w av μ (vl v) v:=by
 unfold vl
 split
 ·rename_i cs
  split
  ·rename_i h;rw[pN]at h;refine .agg _ _ (by simp) (fun j v hv=>h v ?_) (fun j pv v hp hv=>?_)
   ·rw[←pE]at hv;exact bK hv
   ·rw[←pE]at hv;rw[pB,hv]at hp;simp at hp;subst hp;exact qL v (h v (bK hv))
  ·exact .raw _
 ·rename_i h;by_cases hf:flat v=true
  ·exact qL v hf
  ·cases v with
   | agg cs=>exact absurd rfl (h cs)
   | tuple vs=>exact .raw _
   | _=>exact absurd rfl hf
def ER (w:World) (av:Nat→Prop) (μ : Mu) (e:Env) (tmps:Array Value):Prop:=∀t,VR w av μ (get e t) (tmps.getD t undef)
theorem vY {e:Env} {a:Act} (h:ER w av μ e a.tmps) (x:Operand):VR w av μ (ev e x) (a.eval x):=by
 cases x with
 | tmp t=>exact h t
 | const v=>exact xk v
 | global g=>exact .undef _
 | func f=>exact .fr (.fn f)
theorem ut (e:Env) (d:Nat) (v:PV) (t:Nat):get (put e d v) t=if d=t then v else get e t:=by
 induction e with
 | nil=>simp[put,get]
 | cons x r ih =>
  obtain⟨k,u⟩:=x;simp only[put];by_cases hk:k=d
  ·subst hk;simp only[if_true,get];split <;> rfl
  ·rw[hI hk];simp only[get,ih];by_cases h1:k=t
   ·subst h1;simp[Ne.symm hk]
   ·simp[h1]
theorem ER.put {e:Env} {tmps:Array Value} (h:ER w av μ e tmps) {d:Nat} (hd:d<tmps.size) {pv:PV} {v:Value} (hv:VR w av μ pv v):ER w av μ (put e d pv) (tmps.setIfInBounds d v):=by
 intro t;rw[ut];by_cases hdt:d=t
 ·subst hdt;simp[hd];exact hv
 ·rw[hI hdt];have:=h t
  simpa [Array.getElem?_setIfInBounds_ne hdt] using this
theorem ER.mono {w':World} {av':Nat→Prop} {μ':Mu} {e:Env} {tmps:Array Value} (h:ER w av μ e tmps) (hk:xp w av w' av') (hμ : ∀i b,μ i=some b → μ' i=some b):ER w' av' μ' e tmps :=
 fun t=>(h t).mono hk fun i _ b hb=>hμ i b hb
theorem zAl (keep:List Nat) (e:Env) (t:Nat):get (trim keep e) t=get e t∨get (trim keep e) t=.undef:=by
 induction keep with
 | nil=>exact .inr rfl
 | cons k r ih =>
  show get ((k,get e k)::trim r e) t=_∨get ((k,get e k)::trim r e) t=_
  simp only[get]
  split
  ·rename_i h;subst h;exact .inl rfl
  ·exact ih
theorem ER.trim {e:Env} {tmps:Array Value} (h:ER w av μ e tmps) (keep:List Nat):ER w av μ (trim keep e) tmps:=by
 intro t
 rcases zAl keep e t with h1 | h1 <;> rw[h1]
 ·exact h t
 ·exact .undef _
theorem Wb (live:List Nat) (e:Env) (t:Nat):get (keepOnly live e) t=get e t∨get (keepOnly live e) t=.undef:=by
 induction e with
 | nil=>exact .inl rfl
 | cons x r ih =>
  obtain⟨k,u⟩:=x;simp only[keepOnly,pF];by_cases hc:live.contains k=true
  ·rw[hZ hc];simp only[get]
   split
   ·exact .inl rfl
   ·exact ih
  ·rw[hI hc];simp only[get]
   split
   ·exact .inr rfl
   ·exact ih
theorem ER.keepOnly {e:Env} {tmps:Array Value} (h:ER w av μ e tmps) (live:List Nat):ER w av μ (keepOnly live e) tmps:=by
 intro t
 rcases Wb live e t with h1 | h1 <;> rw[h1]
 ·exact h t
 ·exact .undef _
end
end Go.Vs
end
section
namespace Go.Vs
open Go
def vG (S:zA) (A:yT) (μ : Mu):Prop:=∀id a b,arrs S id=some a → μ id=some b→∃f,A id=some ⟨a.rows,a.g,f⟩
theorem vG.refl (S:zA) (μ : Mu):vG S (arrs S) μ := fun id a b h _=>⟨a.f,h⟩
theorem Vh {S:zA} {id:Nat} {rows:List (List PV)} (h:zz S id=some rows) : ∃g f,arrs S id=some ⟨rows,g,f⟩:=by
 unfold zz at h;unfold arrs
 split at h
 ·rename_i r g f hh;simp at h;subst h;exact⟨g,f,by first | rw[hh] | rfl⟩
 ·cases h
theorem xv {S:zA} {A:yT} {μ : Mu} (hA:vG S A μ) {id:Nat} {rows:List (List PV)} (h:zz S id=some rows) {b:Blk} (hb : μ id=some b) : ∃g f,A id=some ⟨rows,g,f⟩:=by
 obtain⟨g,f,h⟩:=Vh h;obtain⟨f',h'⟩:=hA id _ b h hb;exact⟨g,f',h'⟩
section
variable {P:Program} {A:yT} {w:World} {X:Nat→Prop} {S:zA} {n:Nat} {μ : Mu}
theorem SR.row {A:yT} (hS:SR w X A n μ) {id:Nat} {a:Arr} (ha:A id=some a) {b:Blk} (hb : μ id=some b) {i:Nat} {row:List PV} (hi:a.rows[i]? = some row) :
  row.length=b.sz∧∀j pv,row[j]? = some pv→∃u,w.cell? ⟨b.b,i*b.sz+j,none⟩=some u∧flat u=true∧VR w (Av X A μ) μ pv u:=by
 obtain⟨c,el,hh,hc,htot,hsz,hcell⟩:=hS.blk id a ha b hb;refine⟨hsz row (bK hi),fun j pv hj=>?_⟩;obtain⟨u,h1,h2,h3⟩:=hcell i row j pv hi hj;exact⟨u,by simp[World.cell?,hh,h1],h2,h3⟩
theorem YM {av:Nat→Prop} {t:TypeId} {ad:Addr} {row:List PV} {pv:PV} (hrow : ∀j pv,row[j]? = some pv→∃u,w.cell? (ad.add j)=some u∧flat u=true∧VR w av μ pv u)
  (h:part (tyi P t) row=some pv) : ∃u,(loadVar t ad).run P w=.ok u w∧VR w av μ pv u:=by
 unfold part at h
 split at h
 ·cases h
 ·rename_i hk;obtain⟨d,i,hd,hi,hs,_⟩:=xj (P:=P) (t:=t) (by simpa using hk);rw[Vg]at h;simp only[loadVar,bQ,uV hd,bX];by_cases ha:uo P t=true
  ·rw[hZ ha]at h ⊢
   split at h
   ·rename_i hle;simp at h;subst h;have hf : ∀j,j<i.size→w.cell? (ad.add j)=some ((w.cell? (ad.add j)).getD undef):=fun j hj=>by
     obtain⟨u,hu,_⟩:=hrow j (row[j]'(by omega)) (bI (by omega));rw[hu];rfl
    simp only[bQ,yf hi,bX,run_loadCells w ad i.size (fun j=>(w.cell? (ad.add j)).getD undef) hf,pK];refine⟨_,rfl,.agg _ _ (by simp;omega) (fun j v hv=>?_) (fun j pv v hp hv=>?_)⟩
    ·simp only[aW,pB]at hv;by_cases hj:j<i.size
     ·rw[sX hj]at hv;simp at hv;obtain⟨u,hu,hfl,_⟩:=hrow j (row[j]'(by omega)) (bI (by omega));rw[hu]at hv;simp at hv;subst hv;exact hfl
     ·rw[bY (by simpa using hj)]at hv;simp at hv
    ·simp only[aW,pB]at hv;by_cases hj:j<i.size
     ·rw[sX hj]at hv;simp at hv;rw[sR (by omega)]at hp;obtain⟨u,hu,hfl,hr⟩:=hrow j pv hp;rw[hu]at hv;simp at hv;subst hv;exact hr
     ·rw[bY (by simpa using hj)]at hv;simp at hv
   ·cases h
  ·rw[hI ha]at h ⊢;cases row with
   | nil=>simp at h
   | cons p r =>
    simp at h;subst h;obtain⟨u,hu,_,hr⟩:=hrow 0 p rfl;have h0:ad.add 0=ad:=by simp[Addr.add]
    rw[h0]at hu;exact⟨u,by simp[run_load,hu],hr⟩
theorem YN (hS:SR w X A n μ) (hSA:vG S A μ) {t:TypeId} {x pv:PV} {v:Value} (hv:VR w (Av X (A) μ) μ x v) (h:zb (tyi P t) S x=some pv) :
  ∃u,(Instr.loadAt t v).run P w=.ok u w∧VR w (Av X (A) μ) μ pv u:=by
 cases x <;> simp only[zb,reduceCtorEq]at h
 case cp row =>
  cases hv with | fr hf =>
  cases hf with | cp _ ad c hc hr =>
  simp only[Instr.loadAt,Instr.sureAddr,bQ,pK,bX];exact YM (fun j pv hj=>⟨c j,(hc j pv hj).1,FR.flat _ _ (hr j pv hj),.fr (hr j pv hj)⟩) h
 case mp id i off =>
  cases hv with
  | fr hf=>cases hf
  | mp _ _ _ b hb =>
  cases hr:zz S id with
  | none=>rw[hr]at h;simp at h
  | some rows =>
   rw[hr]at h;simp only[bC]at h
   split at h
   ·rename_i hi;obtain⟨g,f,ha⟩:=xv hSA hr hb;obtain⟨hlen,hcell⟩:=hS.row ha hb (i:=i) (row:=rows.getD i []) (by simp[List.getD,bI hi]);simp only[Instr.loadAt,Instr.sureAddr,bQ,pK,bX];refine YM (fun j pv hj=>?_) h;rw[pY]at hj;obtain⟨u,h1,h2,h3⟩:=hcell (off+j) pv hj;exact⟨u,by rw[wB,aN];exact h1,h2,h3⟩
   ·cases h
theorem zu {k:Nat} {rows:List (List PV)} (h:zq k rows=true) : ∀r∈rows,r.length=k:=by
 intro r hr;unfold zq at h;rw[pN]at h
 simpa using h r hr
theorem Zj (hS:SR w X A n μ) (hSA:vG S A μ) {t el:TypeId} (ht:P.underlying t=some (.slice el)) (hel:(tyi P el).known=true) {x i pv:PV} {v u:Value}
  (hv:VR w (Av X (A) μ) μ x v) (hu:VR w (Av X (A) μ) μ i u) (h:xb (tyi P el).size S x i=some pv) :
  ∃z,(Instr.indexAt t v u).run P w=.ok z w∧VR w (Av X (A) μ) μ pv z:=by
 obtain⟨de,ie,hde,hie,hse,_⟩:=xj hel
 cases x <;> simp only[xb,reduceCtorEq]at h
 case sl rows ex =>
  cases i <;> simp only[reduceCtorEq]at h
  rename_i k m;obtain rfl:=hu.int_inv
  split at h
  ·rename_i hm
   split at h
   ·rename_i hlen;simp at h;subst h
    cases hv with | fr hf =>
    cases hf with | sl _ _ a cap ad sz c hcap hex ha had hsz hc hr =>
    have hne:rows≠[]:=by intro h0;subst h0;simp at hm;omega
    have:=had hne;subst this;have hmn:m.toNat<rows.length:=by omega
    have hrow:rows[m.toNat]? = some (rows.getD m.toNat []):=by simp[List.getD,bI hmn]
    have hsz':sz=(tyi P el).size:=by rw[←hsz _ (bK hrow)];exact hlen
    simp only[Instr.indexAt,asIntOf,bQ,pK,bX,run_underlying ht,yf hie];rw[hZ (by omega)];simp only[bQ,yf hie,bX,pK];refine⟨_,rfl,.fr (.cp _ _ (fun j=>c m.toNat j) (fun j pv hj=>?_) (fun j pv hj=>hr _ _ _ _ hrow hj))⟩;have:=hc m.toNat _ j pv hrow hj;rw[Zu,vF,hse,←hsz'];exact this
   ·cases h
  ·cases h
 case msl id off len ex =>
  cases i <;> simp only[reduceCtorEq]at h
  rename_i k m;obtain rfl:=hu.int_inv
  split at h
  ·rename_i hm
   cases hr:zz S id with
   | none=>rw[hr]at h;simp at h
   | some rows =>
    rw[hr]at h;simp only[bC]at h
    split at h
    ·rename_i hok;simp at h;subst h;cases hv with
     | fr hf=>cases hf
     | mslNil=>omega
     | msl _ _ _ _ ad cap b hb hlen htot hex had =>
     obtain⟨g,f,ha⟩:=xv hSA hr hb;have had':=had (by omega);subst had';have hlt:off+m.toNat<rows.length:=by omega
     obtain⟨hlen',_⟩:=hS.row ha hb (i:=off+m.toNat) (row:=rows.getD (off+m.toNat) []) (by simp[List.getD,bI hlt]);have hsz:b.sz=(tyi P el).size:=by
      rw[←hlen'];exact zu hok.1 _ (by simp[List.getD,bI hlt])
     simp only[Instr.indexAt,asIntOf,bQ,pK,bX,run_underlying ht];rw[hZ (by omega)];simp only[bQ,yf hie,bX,pK,wB];refine⟨_,rfl,?_⟩;have:=VR.mp (w:=w) (av:=Av X (A) μ) (μ := μ) id (off+m.toNat) 0 b hb;rw[sC,bZ]at this;rw[hse,←hsz];exact this
    ·cases h
  ·cases h
end
end Go.Vs
end
