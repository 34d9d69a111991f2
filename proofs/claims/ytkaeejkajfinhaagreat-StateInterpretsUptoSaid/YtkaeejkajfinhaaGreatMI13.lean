import Derived.IntWalk
import Derived.Test.YtkaeejkajfinhaaGreatMI12
section
set_option linter.unusedVariables false
set_option linter.unusedSimpArgs false
namespace Go.Vs
open Go Go.Proofs
attribute [go_sem] if_true if_false eq_self Bool.false_eq_true Bool.true_eq_false Bool.not_true Bool.not_false and_self and_true true_and and_false false_and not_true_eq_false not_false_eq_true
@[go_sem] theorem get_nil (t : Nat) : get [] t = .undef := nr rfl
@[go_sem] theorem get_cons (k t : Nat) (v : PV) (r : Env) : get ((k, v) :: r) t = if k = t then v else get r t := nr rfl
@[go_sem] theorem put_nil (t : Nat) (v : PV) : put [] t v = [(t, v)] := nr rfl
@[go_sem] theorem put_cons (k t : Nat) (u v : PV) (r : Env) : put ((k, u) :: r) t v = if k = t then (t, v) :: r else (k, u) :: put r t v := nr rfl
@[go_sem] theorem evBin_add (ti : TI) (k : IntKind) (a b : Int) : evBin .add ti (.int k a) (.int k b) = some (.int k (k.wrap (a + b))) := by simp [evBin, intOp]
@[go_sem] theorem evBin_sub (ti : TI) (k : IntKind) (a b : Int) : evBin .sub ti (.int k a) (.int k b) = some (.int k (k.wrap (a - b))) := by simp [evBin, intOp]
@[go_sem] theorem evBin_mul (ti : TI) (k : IntKind) (a b : Int) : evBin .mul ti (.int k a) (.int k b) = some (.int k (k.wrap (a * b))) := by simp [evBin, intOp]
@[go_sem] theorem evBin_eql (ti : TI) (k : IntKind) (a b : Int) : evBin .eql ti (.int k a) (.int k b) = some (.bool (decide (a = b))) := by simp [evBin, intOp]
@[go_sem] theorem evBin_neq (ti : TI) (k : IntKind) (a b : Int) : evBin .neq ti (.int k a) (.int k b) = some (.bool (!decide (a = b))) := by simp [evBin, intOp]
@[go_sem] theorem evBin_lss (ti : TI) (k : IntKind) (a b : Int) : evBin .lss ti (.int k a) (.int k b) = some (.bool (decide (a < b))) := by simp [evBin, intOp]
@[go_sem] theorem evBin_leq (ti : TI) (k : IntKind) (a b : Int) : evBin .leq ti (.int k a) (.int k b) = some (.bool (decide (a ≤ b))) := by simp [evBin, intOp]
@[go_sem] theorem evBin_gtr (ti : TI) (k : IntKind) (a b : Int) : evBin .gtr ti (.int k a) (.int k b) = some (.bool (decide (b < a))) := by simp [evBin, intOp]
@[go_sem] theorem evBin_geq (ti : TI) (k : IntKind) (a b : Int) : evBin .geq ti (.int k a) (.int k b) = some (.bool (decide (b ≤ a))) := by simp [evBin, intOp]
@[go_sem] theorem evBin_and (ti : TI) (k : IntKind) (a b : Int) : evBin .and ti (.int k a) (.int k b) = some (.int k (k.wrap (BitVec.ofInt k.bits a &&& BitVec.ofInt k.bits b).toNat)) := by simp [evBin, intOp]
@[go_sem] theorem evBin_or (ti : TI) (k : IntKind) (a b : Int) : evBin .or ti (.int k a) (.int k b) = some (.int k (k.wrap (BitVec.ofInt k.bits a ||| BitVec.ofInt k.bits b).toNat)) := by simp [evBin, intOp]
@[go_sem] theorem evBin_xor (ti : TI) (k : IntKind) (a b : Int) : evBin .xor ti (.int k a) (.int k b) = some (.int k (k.wrap (BitVec.ofInt k.bits a ^^^ BitVec.ofInt k.bits b).toNat)) := by simp [evBin, intOp]
@[go_sem] theorem evBin_quo (ti : TI) (k : IntKind) (a b : Int) : evBin .quo ti (.int k a) (.int k b) = if b = 0 then none else some (.int k (k.wrap (a.tdiv b))) := by simp [evBin, intOp]
@[go_sem] theorem evBin_rem (ti : TI) (k : IntKind) (a b : Int) : evBin .rem ti (.int k a) (.int k b) = if b = 0 then none else some (.int k (a.tmod b)) := by simp [evBin, intOp]
@[go_sem] theorem evBin_shl (ti : TI) (k k' : IntKind) (a b : Int) : evBin .shl ti (.int k a) (.int k' b) = if b < 0 then none else some (.int k (k.wrap (a * 2 ^ min b.toNat k.bits))) := by simp [evBin, shiftOp]
@[go_sem] theorem evBin_shr (ti : TI) (k k' : IntKind) (a b : Int) : evBin .shr ti (.int k a) (.int k' b) = if b < 0 then none else some (.int k (a.fdiv (2 ^ min b.toNat k.bits))) := by simp [evBin, shiftOp]
@[go_sem] theorem evBin_streql (ti : TI) (a b : ByteArray) : evBin .eql ti (.str a) (.str b) = some (.bool (a.toList == b.toList)) := nr rfl
@[go_sem] theorem evBin_strneq (ti : TI) (a b : ByteArray) : evBin .neq ti (.str a) (.str b) = some (.bool (!(a.toList == b.toList))) := nr rfl
@[go_sem] theorem evBin_strlss (ti : TI) (a b : ByteArray) : evBin .lss ti (.str a) (.str b) = some (.bool (Op.bytesLess a.toList b.toList)) := nr rfl
@[go_sem] theorem tyBool : (tyi Tryz.prog 4).d = .bool := nr (by kernel_rfl)
@[go_sem] theorem evBin_booleql (a b : Bool) : evBin .eql (tyi Tryz.prog 4) (.bool a) (.bool b) = some (.bool (a == b)) := by simp [evBin, tyBool]
@[go_sem] theorem evBin_boolneq (a b : Bool) : evBin .neq (tyi Tryz.prog 4) (.bool a) (.bool b) = some (.bool (!(a == b))) := by simp [evBin, tyBool]
@[go_sem] theorem evBinO_int (op : BinOp) (ti : TI) (yo : Operand) (k : IntKind) (n : Int) (y : PV) : evBinO op ti yo (.int k n) y = evBin op ti (.int k n) y := nr rfl
@[go_sem] theorem evBinO_bool (op : BinOp) (ti : TI) (yo : Operand) (b : Bool) (y : PV) : evBinO op ti yo (.bool b) y = evBin op ti (.bool b) y := nr rfl
@[go_sem] theorem evBinO_str (op : BinOp) (ti : TI) (yo : Operand) (b : ByteArray) (y : PV) : evBinO op ti yo (.str b) y = evBin op ti (.str b) y := nr rfl
@[go_sem] theorem evUn_not (b : Bool) : evUn .not (.bool b) = some (.bool (!b)) := nr rfl
@[go_sem] theorem evUn_neg (k : IntKind) (n : Int) : evUn .neg (.int k n) = some (.int k (k.wrap (0 - n))) := nr rfl
theorem lenO_str (ti : TI) (h : ti.d = .str) (s : ByteArray) : lenO ti (.str s) = some (.int .i64 s.size) := by simp [lenO, evLen, h]
theorem lenO_sl (ti : TI) {e : TypeId} (h : ti.d = .slice e) (r : List (List PV)) (ex : Bool) : lenO ti (.sl r ex) = some (.int .i64 r.length) := by simp [lenO, evLen, h]
theorem lenO_msl (ti : TI) {e : TypeId} (h : ti.d = .slice e) (i o l : Nat) (ex : Bool) : lenO ti (.msl i o l ex) = some (.int .i64 l) := by simp [lenO, evLen, h]
@[go_sem] theorem tyStr : (tyi Tryz.prog 9).d = .str := nr (by kernel_rfl)
@[go_sem] theorem lenStr (s : ByteArray) : lenO (tyi Tryz.prog 9) (.str s) = some (.int .i64 s.size) := lenO_str _ tyStr s
def byteAt (s : ByteArray) (i : Nat) : Int := ((s.data.toList.getD i 0).toNat : Int)
@[go_sem] theorem indexStr (s : ByteArray) (n : Int) : indexO Tryz.prog 9 (.str s) (.int .i64 n) = if 0 ≤ n ∧ n < s.size then some (.int .u8 (byteAt s n.toNat)) else none := by
  simp [indexO, tyStr, evIndex, byteAt]
attribute [go_sem] Int.toNat_natCast
@[go_sem] theorem maxO_int (k k' : IntKind) (a b : Int) : maxO [.int k a, .int k' b] = some (.int k (if a < b then b else a)) := nr rfl
@[go_sem] theorem minO_int (k k' : IntKind) (a b : Int) : minO [.int k a, .int k' b] = some (.int k (if b < a then b else a)) := nr rfl
@[go_sem] theorem extractO_zero (v : PV) (r : List PV) : extractO (.tup (v :: r)) 0 = some v := nr rfl
@[go_sem] theorem extractO_succ (v : PV) (r : List PV) (i : Nat) : extractO (.tup (v :: r)) (i + 1) = extractO (.tup r) i := nr rfl
def Plain (v : PV) : Prop := v.refs = [] ∧ ∀ S, fzPV S v = some v
theorem Plain.int (k : IntKind) (n : Int) : Plain (.int k n) := ⟨rfl, fun _ => rfl⟩
theorem Plain.bool (b : Bool) : Plain (.bool b) := ⟨rfl, fun _ => rfl⟩
theorem Plain.str (s : ByteArray) : Plain (.str s) := ⟨rfl, fun _ => rfl⟩
theorem Plain.sl (r : List (List PV)) : Plain (.sl r false) := ⟨rfl, fun _ => by cases r <;> rfl⟩
theorem Plain.nil : Plain (.sl [] true) := ⟨rfl, fun _ => rfl⟩
@[go_sem] theorem fzPV_int (S : Store) (k : IntKind) (n : Int) : fzPV S (.int k n) = some (.int k n) := nr rfl
@[go_sem] theorem fzPV_bool (S : Store) (b : Bool) : fzPV S (.bool b) = some (.bool b) := nr rfl
@[go_sem] theorem fzPV_str (S : Store) (s : ByteArray) : fzPV S (.str s) = some (.str s) := nr rfl
@[go_sem] theorem fzPV_sl (S : Store) (r : List (List PV)) : fzPV S (.sl r false) = some (.sl r false) := nr (by cases r <;> rfl)
@[go_sem] theorem fzPV_nil (S : Store) : fzPV S (.sl [] true) = some (.sl [] true) := nr rfl
@[go_sem] theorem fzPV_slx (S : Store) (a : List PV) (r : List (List PV)) : fzPV S (.sl (a :: r) true) = some (.sl (a :: r) false) := nr rfl
@[go_sem] theorem fzCell_int (S : Store) (d : Nat) (k : IntKind) (n : Int) : fzCell S (d + 1) (.int k n) = some (.int k n) := nr rfl
@[go_sem] theorem fzCell_bool (S : Store) (d : Nat) (b : Bool) : fzCell S (d + 1) (.bool b) = some (.bool b) := nr rfl
@[go_sem] theorem fzCell_str (S : Store) (d : Nat) (s : ByteArray) : fzCell S (d + 1) (.str s) = some (.str s) := nr rfl
@[go_sem] theorem fzCell_sl (S : Store) (d : Nat) (r : List (List PV)) (ex : Bool) : fzCell S (d + 1) (.sl r ex) = some (.sl r false) := nr rfl
@[go_sem] theorem mapO_nil {α β : Type} (f : α → Option β) : mapO f [] = some [] := nr rfl
@[go_sem] theorem mapO_cons {α β : Type} (f : α → Option β) (a : α) (r : List α) : mapO f (a :: r) = (f a).bind fun b => (mapO f r).map fun l => b :: l := nr rfl
theorem reach_nil (S : Store) : ∀ d, reach S d [] = []
  | 0 => rfl
  | d + 1 => by simp [reach, reach_nil S d]
theorem mapO_plain {S : Store} : ∀ {l : List PV}, (∀ a ∈ l, Plain a) → mapO (fzPV S) l = some l
  | [], _ => rfl
  | a :: r, h => by simp [mapO, (h a (by simp)).2 S, mapO_plain (S := S) (l := r) fun x hx => h x (by simp [hx])]
theorem refs_plain : ∀ {l : List PV}, (∀ a ∈ l, Plain a) → l.flatMap PV.refs = []
  | [], _ => rfl
  | a :: r, h => by simp [List.flatMap_cons, (h a (by simp)).1, refs_plain (l := r) fun x hx => h x (by simp [hx])]
theorem callO_plain {S : Store} {f : FuncId} {l : List PV} {v : PV} (h : callL Tryz.prog hints f l = some v) (ha : ∀ a ∈ l, Plain a) : callO (callL Tryz.prog hints) S f l = some { v } := by
  simp [callO, refs_plain ha, reach_nil, mapO_plain ha, h]
@[go_sem] theorem some_bind {α β : Type} (a : α) (f : α → Option β) : (some a).bind f = f a := nr rfl
@[go_sem] theorem some_map {α β : Type} (a : α) (f : α → β) : (some a).map f = some (f a) := nr rfl
@[go_sem] theorem evLoad_cp (ti : TI) (S : Store) (r : List PV) : evLoad ti S (.cp r) = part ti r := nr rfl
@[go_sem] theorem evLoad_mp (ti : TI) (S : Store) (id i off : Nat) : evLoad ti S (.mp id i off) = (rowsAt S id).bind fun rows => if i < rows.length then part ti ((rows.getD i []).drop off) else none := nr rfl
@[go_sem] theorem rowsAt_zero (rows : List (List PV)) (g : Option (Option Nat)) (f : Bool) (S : Store) : rowsAt (.arr rows g f :: S) 0 = some rows := nr rfl
@[go_sem] theorem rowsAt_succ (o : Obj) (S : Store) (n : Nat) : rowsAt (o :: S) (n + 1) = rowsAt S n := nr rfl
attribute [go_sem] List.nil_append List.cons_append List.length_cons List.length_nil List.getD_cons_zero List.drop_zero List.drop_succ_cons Nat.zero_add Nat.add_zero Nat.lt_add_one
@[go_sem] theorem boxed_if (S : Store) (id k : Nat) (v : PV) : boxed S id k v = if v.cells.length = k ∧ v.cells.all PV.cell = true then some { v := .mp id 0 0, new := some ([v.cells], none) } else none := nr rfl
attribute [go_sem] List.all_cons List.all_nil Bool.and_self Bool.and_true Bool.true_and Bool.and_false Bool.false_and decide_true decide_false List.take_succ_cons List.take_zero List.take_nil List.drop_nil List.append_nil List.set_cons_zero List.set_cons_succ ge_iff_le
@[go_sem] theorem pvcells_agg (l : List PV) : PV.cells (.agg l) = l := nr rfl
@[go_sem] theorem pvcells_int (k : IntKind) (n : Int) : PV.cells (.int k n) = [.int k n] := nr rfl
@[go_sem] theorem pvcells_bool (b : Bool) : PV.cells (.bool b) = [.bool b] := nr rfl
@[go_sem] theorem pvcells_str (b : ByteArray) : PV.cells (.str b) = [.str b] := nr rfl
@[go_sem] theorem pvcells_sl (r : List (List PV)) (ex : Bool) : PV.cells (.sl r ex) = [.sl r ex] := nr rfl
@[go_sem] theorem pvcells_msl (a b c : Nat) (ex : Bool) : PV.cells (.msl a b c ex) = [.msl a b c ex] := nr rfl
@[go_sem] theorem pvcells_mp (a b c : Nat) : PV.cells (.mp a b c) = [.mp a b c] := nr rfl
@[go_sem] theorem cell_int (k : IntKind) (n : Int) : PV.cell (.int k n) = true := nr rfl
@[go_sem] theorem cell_bool (b : Bool) : PV.cell (.bool b) = true := nr rfl
@[go_sem] theorem cell_str (b : ByteArray) : PV.cell (.str b) = true := nr rfl
@[go_sem] theorem cell_sl (r : List (List PV)) (ex : Bool) : PV.cell (.sl r ex) = true := nr rfl
@[go_sem] theorem cell_msl (a b c : Nat) (ex : Bool) : PV.cell (.msl a b c ex) = true := nr rfl
@[go_sem] theorem cell_mp (a b c : Nat) : PV.cell (.mp a b c) = true := nr rfl
@[go_sem] theorem refs_undef : PV.refs .undef = [] := nr rfl
@[go_sem] theorem refs_skip : PV.refs .skip = [] := nr rfl
@[go_sem] theorem refs_int (k : IntKind) (n : Int) : PV.refs (.int k n) = [] := nr rfl
@[go_sem] theorem refs_bool (b : Bool) : PV.refs (.bool b) = [] := nr rfl
@[go_sem] theorem refs_str (b : ByteArray) : PV.refs (.str b) = [] := nr rfl
@[go_sem] theorem refs_sl (r : List (List PV)) (ex : Bool) : PV.refs (.sl r ex) = [] := nr rfl
@[go_sem] theorem refs_cp (r : List PV) : PV.refs (.cp r) = [] := nr rfl
@[go_sem] theorem refs_agg (l : List PV) : PV.refs (.agg l) = refsL l := nr rfl
@[go_sem] theorem refs_tup (l : List PV) : PV.refs (.tup l) = refsL l := nr rfl
@[go_sem] theorem refs_msl (a b c : Nat) (ex : Bool) : PV.refs (.msl a b c ex) = [a] := nr rfl
@[go_sem] theorem refs_mp (a b c : Nat) : PV.refs (.mp a b c) = [a] := nr rfl
@[go_sem] theorem refsL_nil : refsL [] = [] := nr rfl
@[go_sem] theorem refsL_cons (v : PV) (r : List PV) : refsL (v :: r) = v.refs ++ refsL r := nr rfl
@[go_sem] theorem rowsRefs_nil : rowsRefs [] = [] := nr rfl
@[go_sem] theorem rowsRefs_cons (v : List PV) (r : List (List PV)) : rowsRefs (v :: r) = refsL v ++ rowsRefs r := nr rfl
def seenBelow (n : Nat) : Env → Bool
  | [] => true
  | (_, v) :: r => (v.refs.all fun i => decide (i < n)) && seenBelow n r
def heldBelow (n : Nat) : Nat → Store → Bool
  | 0, _ => true
  | _, [] => true
  | m + 1, .arr rows _ _ :: r => ((rowsRefs rows).all fun i => decide (i < n)) && heldBelow n m r
  | m + 1, .gone :: r => heldBelow n m r
theorem seenBelow_eq (n : Nat) : ∀ e : Env, (e.all fun (_, v) => v.refs.all fun i => decide (i < n)) = seenBelow n e
  | [] => rfl
  | (_, v) :: r => by simp only [List.all_cons, seenBelow, seenBelow_eq n r]
theorem heldBelow_eq (n : Nat) : ∀ (m : Nat) (S : Store), ((S.take m).all fun | .arr rows _ _ => (rowsRefs rows).all fun i => decide (i < n) | .gone => true) = heldBelow n m S
  | 0, S => by simp [heldBelow]
  | m + 1, [] => by simp [heldBelow]
  | m + 1, .arr rows g f :: r => by simp only [List.take_succ_cons, List.all_cons, heldBelow, heldBelow_eq n m r]
  | m + 1, .gone :: r => by simp only [List.take_succ_cons, List.all_cons, heldBelow, heldBelow_eq n m r, Bool.true_and]
@[go_sem] theorem gc_eq (n : Nat) (k : Nat) (v : PV) (e : Env) (o : Obj) (S : Store) : gc n ((k, v) :: e) (o :: S) = if seenBelow n ((k, v) :: e) = true ∧ heldBelow n n (o :: S) = true then (o :: S).take n else o :: S := by
  rw [← seenBelow_eq, ← heldBelow_eq]
  rfl
@[go_sem] theorem seenBelow_nil (n : Nat) : seenBelow n [] = true := nr rfl
@[go_sem] theorem seenBelow_cons (n k : Nat) (v : PV) (r : Env) : seenBelow n ((k, v) :: r) = ((v.refs.all fun i => decide (i < n)) && seenBelow n r) := nr rfl
@[go_sem] theorem heldBelow_zero (n : Nat) (S : Store) : heldBelow n 0 S = true := nr (by cases S <;> rfl)
@[go_sem] theorem heldBelow_nil (n m : Nat) : heldBelow n m [] = true := nr (by cases m <;> rfl)
@[go_sem] theorem heldBelow_cons (n m : Nat) (rows : List (List PV)) (g : Option (Option Nat)) (f : Bool) (r : Store) : heldBelow n (m + 1) (.arr rows g f :: r) = (((rowsRefs rows).all fun i => decide (i < n)) && heldBelow n m r) := nr rfl
@[go_sem] theorem heldBelow_gone (n m : Nat) (r : Store) : heldBelow n (m + 1) (.gone :: r) = heldBelow n m r := nr rfl
@[go_sem] theorem storeE_eq (ti : TI) (S : Store) (a v : PV) : storeE ti S a v = if ti.known = true then (evStore ti.size S a v).map fun S => { v := .skip, S } else none := nr rfl
@[go_sem] theorem evStore_zero (n : Nat) (rows : List (List PV)) (g : Option (Option Nat)) (S : Store) (i off : Nat) (v : PV) : evStore n (.arr rows g false :: S) (.mp 0 i off) v =
    if i < rows.length ∧ off + n ≤ (rows.getD i []).length ∧ v.cells.length = n ∧ v.cells.all PV.cell = true then some (.arr (rows.set i (splice (rows.getD i []) off v.cells)) g false :: S) else none := nr rfl
@[go_sem] theorem evStore_succ (n : Nat) (o : Obj) (S : Store) (id i off : Nat) (v : PV) : evStore n (o :: S) (.mp (id + 1) i off) v = (evStore n S (.mp id i off) v).map fun S => o :: S := by
  simp only [evStore, List.getElem?_cons_succ]
  cases h : S[id]? with
  | none => rfl
  | some q =>
    cases q with
    | gone => rfl
    | arr rows g f =>
      cases f with
      | true => rfl
      | false =>
        simp only
        split <;> simp
@[go_sem] theorem splice_if (row : List PV) (off : Nat) (cs : List PV) : splice row off cs = if off = 0 ∧ cs.length = row.length then cs else row.take off ++ cs ++ row.drop (off + cs.length) := nr rfl
@[go_sem] theorem killE_nil' (e : Env) : killE [] e = e := nr rfl
@[go_sem] theorem len_nil : List.length ([] : Store) = 0 := nr rfl
attribute [go_sem] Nat.le_refl
theorem iteEq {α : Type} {c : Prop} [Decidable c] {a b v : α} (h1 : c → a = v) (h2 : ¬ c → b = v) : (if c then a else b) = v := by
  by_cases h : c
  · rw [if_pos h]; exact h1 h
  · rw [if_neg h]; exact h2 h
@[go_sem] theorem rowsOK_nil (n : Nat) : rowsOK n [] = true := nr rfl
@[go_sem] theorem rowsOK_cons (n : Nat) (r : List PV) (l : List (List PV)) : rowsOK n (r :: l) = (r.length == n && rowsOK n l) := nr rfl
@[go_sem] theorem range0 : List.range 0 = [] := nr rfl
@[go_sem] theorem range1 : List.range 1 = [0] := nr rfl
@[go_sem] theorem range2 : List.range 2 = [0, 1] := nr rfl
@[go_sem] theorem range3 : List.range 3 = [0, 1, 2] := nr rfl
attribute [go_sem] beq_self_eq_true
theorem append_known {b bytes esz : Nat} {S : Store} {id len : Nat} {rows new : List (List PV)} {g : Option Nat} {ex : Bool} {y : PV} (hS : S[id]? = some (.arr rows (some g) false)) (hy : rowsS S y = some new) (hb : b ≤ id)
    (hl : len = rows.length) (hg : g = none ∨ g = some esz) (h1 : rowsOK esz rows = true) (h2 : rowsOK esz new = true) (h3 : (rows.length + new.length) * bytes ≤ 140737488355328) (h4 : rows.length + new.length ≤ 9223372036854775807)
    (h5 : (rowsRefs rows ++ rowsRefs new).contains id = false) : evAppend b bytes esz S (.msl id 0 len ex) y = some { v := .msl id 0 (rows.length + new.length) false, S := (S.map (killObj [id])).set id (.arr (rows ++ new) (some (some esz)) false), kill := [id] } := by
  simp only [evAppend, if_pos hb, evAppend1, hS, hy, Option.bind_some]
  rw [if_pos ⟨hb, hl, hg, h1, h2, h3, h4, h5⟩]
@[go_sem] theorem killE_cons (i : Nat) (e : Env) : killE [i] e = e.map fun (t, v) => (t, kill1 [i] v) := nr rfl
@[go_sem] theorem kill1_eq (ids : List Nat) (v : PV) : kill1 ids v = if (v.refs.any fun i => ids.contains i) = true then .undef else v := nr rfl
@[go_sem] theorem killObj_arr (ids : List Nat) (rows : List (List PV)) (g : Option (Option Nat)) (f : Bool) : killObj ids (.arr rows g f) = .arr (killRows ids rows) g f := nr rfl
@[go_sem] theorem killRows_eq (ids : List Nat) (rows : List (List PV)) : killRows ids rows = if ((rowsRefs rows).any fun i => ids.contains i) = true then rows.map fun r => r.map (kill1 ids) else rows := nr rfl
attribute [go_sem] List.map_cons List.map_nil List.any_cons List.any_nil Bool.or_false Bool.false_or Bool.or_self List.contains_cons List.contains_nil
@[go_sem] theorem reach_eq (S : Store) (d : Nat) (a : Nat) (ids : List Nat) : reach S (d + 1) (a :: ids) = (a :: ids) ++ reach S d ((a :: ids).flatMap fun id => match rowsAt S id with | some rows => rowsRefs rows | none => []) := nr rfl
@[go_sem] theorem reach_none (S : Store) (d : Nat) : reach S d [] = [] := nr (reach_nil S d)
attribute [go_sem] List.flatMap_cons List.flatMap_nil
@[go_sem] theorem freezeAll_cons (S : Store) (i : Nat) (l : List Nat) : freezeAll S (i :: l) = freezeAll (freeze1 S i) l := nr rfl
@[go_sem] theorem freeze1_zero (rows : List (List PV)) (g : Option (Option Nat)) (f : Bool) (S : Store) : freeze1 (.arr rows g f :: S) 0 = .arr rows g true :: S := nr rfl
@[go_sem] theorem freeze1_succ (o : Obj) (S : Store) (i : Nat) : freeze1 (o :: S) (i + 1) = o :: freeze1 S i := nr (by
  simp only [freeze1, List.getElem?_cons_succ]
  split <;> simp_all)
@[go_sem] theorem rowsIn_msl (S : Store) (id off len : Nat) (ex : Bool) : rowsIn S (.msl id off len ex) = (rowsAt S id).bind fun rows => if off + len ≤ rows.length then some ((rows.drop off).take len) else none := nr rfl
theorem mapO_all {α β : Type} {f : α → Option β} {g : α → β} : ∀ {l : List α}, (∀ a ∈ l, f a = some (g a)) → mapO f l = some (l.map g)
  | [], _ => rfl
  | a :: r, h => by simp [mapO, h a (by simp), mapO_all (l := r) fun x hx => h x (by simp [hx])]
@[go_sem] theorem freezeAll_nil (S : Store) : freezeAll S [] = S := nr rfl
theorem gc_at {n : Nat} {e : Env} {S : Store} (hn : n ≤ S.length) : n ≤ (gc n e S).length ∧ ∀ j, j < n → (gc n e S)[j]? = S[j]? := by
  unfold gc
  split
  · exact ⟨by rw [List.length_take]; omega, fun j hj => by rw [List.getElem?_take_of_lt hj]⟩
  · exact ⟨hn, fun _ _ => rfl⟩
theorem killRows_id {ids : List Nat} {rows : List (List PV)} (h : ∀ r ∈ rowsRefs rows, r ∉ ids) : killRows ids rows = rows := by
  unfold killRows
  rw [if_neg]
  simp only [List.any_eq_true, not_exists, not_and, List.contains_iff_mem]
  exact h
theorem rowsAt_of {S : Store} {id : Nat} {rows : List (List PV)} {g : Option (Option Nat)} {f : Bool} (h : S[id]? = some (.arr rows g f)) : rowsAt S id = some rows := by simp only [rowsAt, h]
theorem maxLen_le : maxLen ≤ 9223372036854775807 := by decide
theorem wrap_succ {i n : Nat} (h : i < n) (hn : n ≤ maxLen) : IntKind.i64.wrap ((i : Int) + 1) = ((i + 1 : Nat) : Int) := by
  have := maxLen_le
  rw [IntKind.wrap_i64]; omega
@[go_sem] theorem dec_self (a : Int) : decide (a = a) = true := by simp
@[go_sem] theorem gc_nil (n : Nat) (e : Env) : gc n e [] = [] := by unfold gc; split <;> simp
@[go_sem] theorem exact_nil : exact (.sl [] true) = true := nr rfl
end Go.Vs
end
section
set_option linter.unusedVariables false
set_option linter.unusedSimpArgs false
namespace Go.Vs
open Go Go.Proofs
structure SlT (t el : TypeId) (sz bytes : Nat) : Prop where
  d : (tyi Tryz.prog t).d = .slice el
  k : (tyi Tryz.prog el).known = true
  s : (tyi Tryz.prog el).size = sz
  b : (tyi Tryz.prog el).bytes = bytes
  z : zeroOK (tyi Tryz.prog el) = true
theorem SlT.el {t el : TypeId} {sz bytes : Nat} (h : SlT t el sz bytes) : elemTy (tyi Tryz.prog t) = el := by simp [elemTy, h.d]
theorem SlT.is {t el : TypeId} {sz bytes : Nat} (h : SlT t el sz bytes) : isSlice (tyi Tryz.prog t) = true := by simp [isSlice, h.d]
theorem SlT.len {t el : TypeId} {sz bytes : Nat} (h : SlT t el sz bytes) (r : List (List PV)) (ex : Bool) : lenO (tyi Tryz.prog t) (.sl r ex) = some (.int .i64 r.length) := lenO_sl _ h.d r ex
theorem SlT.lenm {t el : TypeId} {sz bytes : Nat} (h : SlT t el sz bytes) (i o l : Nat) (ex : Bool) : lenO (tyi Tryz.prog t) (.msl i o l ex) = some (.int .i64 l) := lenO_msl _ h.d i o l ex
section
variable {α : Type} {t el : TypeId} {sz bytes : Nat} {enc : α → List PV}
theorem enc_ok (he : ∀ a, (enc a).length = sz) (L : List α) : rowsOK sz (L.map enc) = true := by
  simp [rowsOK, he]
theorem enc_get (L : List α) (d : α) {i : Nat} (h : i < L.length) : (L.map enc).getD i [] = enc (L.getD i d) := by
  simp [List.getD_eq_getElem?_getD, h]
theorem SlT.idx (h : SlT t el sz bytes) (he : ∀ a, (enc a).length = sz) (d : α) (S : Store) (L : List α) (ex : Bool) (i : Int) : indexAddrO Tryz.prog t S (.sl (L.map enc) ex) (.int .i64 i) = if 0 ≤ i ∧ i < L.length then some (.cp (enc (L.getD i.toNat d))) else none := by
  simp only [indexAddrO, h.el, h.is, h.k, h.s, and_self, if_true, evIndexAddr, List.length_map]
  split
  · rename_i hh
    rw [enc_get L d (by omega), if_pos (he _)]
  · rfl
theorem SlT.idxm (h : SlT t el sz bytes) {S : Store} {id off n : Nat} {ex : Bool} {rows : List (List PV)} (i : Nat) (hS : rowsAt S id = some rows) (hl : off + n ≤ rows.length) (h2 : rowsOK sz rows = true) (hi : i < n) : indexAddrO Tryz.prog t S (.msl id off n ex) (.int .i64 i) = some (.mp id (off + i) 0) := by
  simp only [indexAddrO, h.el, h.is, h.k, h.s, and_self, if_true, evIndexAddr, hS, Option.bind_some]
  rw [if_pos ⟨by omega, by omega⟩, if_pos ⟨h2, hl⟩, Int.toNat_natCast]
theorem SlT.make (h : SlT t el sz bytes) {z : List PV} (hz : (tyi Tryz.prog el).zero = some z) (id n : Nat) (hn : bytes * n ≤ 281474976710656) (hn2 : n ≤ 9223372036854775807) : makeSliceO Tryz.prog t id (.int .i64 n) (.int .i64 n) = some { v := .msl id 0 n true, new := some (List.replicate n z, some (some sz)) } := by
  have hq := h.z
  simp only [zeroOK, hz, h.s, Bool.and_eq_true, beq_iff_eq] at hq
  simp only [makeSliceO, h.d, hz, Option.bind_some, h.b, h.s]
  have e : ((bytes : Int) * (n : Int)) ≤ 281474976710656 := by
    have : ((bytes * n : Nat) : Int) = (bytes : Int) * (n : Int) := Int.natCast_mul _ _
    omega
  rw [if_pos ⟨by omega, by omega, e, by omega, hq.1, hq.2⟩]
  simp
theorem SlT.buildSlice (h : SlT t el sz bytes) (h0 : 0 < sz) (id n : Nat) (is : List Nat) (rows : List (List PV)) : buildSliceO Tryz.prog t id n is rows = if is = List.range n ∧ rowsOK sz rows = true ∧ (rows.all fun r => r.all PV.cell) = true ∧ n * sz ≤ 16777216 then some { v := .msl id 0 n true, new := some (rows, some (some sz)) } else none := by
  have hq := h.z
  have e : (tyi Tryz.prog el).zero.isSome = true := by
    unfold zeroOK at hq
    split at hq
    · rename_i z hz; rw [hz]; rfl
    · cases hq
  simp [buildSliceO, h.d, h.s, e, h0]
inductive RowsV (S : Store) : PV → List (List PV) → Prop
  | sl (rows : List (List PV)) (ex : Bool) : RowsV S (.sl rows ex) rows
  | msl (id : Nat) (rows : List (List PV)) (ex : Bool) (g : Option (Option Nat)) (f : Bool) (h : S[id]? = some (.arr rows g f)) : RowsV S (.msl id 0 rows.length ex) rows
theorem RowsV.rowsIn {S : Store} {p : PV} {rows : List (List PV)} (h : RowsV S p rows) : Vs.rowsIn S p = some rows := by
  cases h with
  | sl rows ex => rfl
  | msl id rows ex g f h =>
    rw [rowsIn_msl, rowsAt_of h]
    simp
theorem RowsV.rowsS {S : Store} {p : PV} {rows : List (List PV)} (h : RowsV S p rows) : Vs.rowsS S p = some rows := by
  have := h.rowsIn
  cases h <;> exact this
theorem SlT.appNil (h : SlT t el sz bytes) (b : Nat) (S : Store) {p : PV} {rows : List (List PV)} (hp : RowsV S p rows) (h2 : rowsOK sz rows = true) (h3 : rows.length * bytes ≤ 140737488355328) (h4 : rows.length ≤ 9223372036854775807) : appendE Tryz.prog b t t S (.sl [] true) p = some { v := .msl S.length 0 rows.length false, S := S ++ [.arr rows (some (some sz)) false] } := by
  have e5 : evAppendNew bytes sz S S.length (.sl [] true) p = some { v := .msl S.length 0 rows.length false, new := some (rows, some (some sz)) } := by
    have e6 : Vs.rowsIn S (.sl [] true) = some [] := rfl
    have e7 : exact (.sl [] true) = true := rfl
    simp only [evAppendNew, e7, if_true, e6, hp.rowsS, Option.bind_some, List.length_nil, Nat.zero_add]
    rw [if_pos ⟨rfl, h2, h3, h4⟩]
    by_cases h0 : rows.length = 0
    · have : rows = [] := List.eq_nil_of_length_eq_zero h0
      subst this
      rfl
    · rw [if_neg h0]
      simp
  simp only [appendE, exact, if_true, appendN, h.d, srcT, h.z, and_self, h.b, h.s, e5, Option.map_some, place]
theorem SlT.app (h : SlT t el sz bytes) {b : Nat} {S : Store} {id : Nat} {rows new : List (List PV)} {g : Option Nat} {p : PV} (hS : S[id]? = some (.arr rows (some g) false)) (hb : b ≤ id) (hg : g = none ∨ g = some sz) (hp : RowsV S p new) (h1 : rowsOK sz rows = true) (h2 : rowsOK sz new = true) (h3 : (rows.length + new.length) * bytes ≤ 140737488355328) (h4 : rows.length + new.length ≤ 9223372036854775807) (h5 : id ∉ rowsRefs rows) (h6 : id ∉ rowsRefs new) :
    appendE Tryz.prog b t t S (.msl id 0 rows.length false) p = some { v := .msl id 0 (rows.length + new.length) false, S := (S.map (killObj [id])).set id (.arr (rows ++ new) (some (some sz)) false), kill := [id] } := by
  have hk := append_known (b := b) (bytes := bytes) (esz := sz) (ex := false) hS hp.rowsS hb rfl hg h1 h2 h3 h4 (by simp [h5, h6])
  rw [← hk]
  simp only [appendE, exact, Bool.false_eq_true, if_false, h.d, srcT, h.z, and_self, if_true, h.b, h.s]
theorem SlT.copy (h : SlT t el sz bytes) {S : Store} {id n : Nat} {ex : Bool} {rows new : List (List PV)} {g : Option (Option Nat)} {p : PV} (hS : S[id]? = some (.arr rows g false)) (h1 : rows.length = n) (h2 : rowsOK sz rows = true) (hp : RowsV S p new) (h4 : rowsOK sz new = true) (h3 : new.length ≤ n) :
    copyE Tryz.prog t t S (.msl id 0 n ex) p = some { v := .int .i64 new.length, S := S.set id (.arr (new ++ rows.drop new.length) g false) } := by
  simp only [copyE, h.d, h.k, if_true, h.s, evCopy, hS, hp.rowsIn, Option.bind_some]
  rw [if_pos ⟨by omega, h2, h4⟩]
  have e1 : new.take n = new := List.take_of_length_le h3
  rw [e1, Nat.min_eq_left h3]
  simp
theorem SlT.firsts (h : SlT t el sz bytes) (S : Store) {rows : List (List PV)} (ex : Bool) (i : Nat) (hi : i ≤ rows.length) (h2 : rowsOK sz rows = true) : sliceO Tryz.prog t S (.sl rows ex) none (some (.int .i64 i)) none = some (.sl (rows.take i) false) := by
  simp [sliceO, h.el, h.is, h.k, h.s, evSlice, h.d, bound, hi, h2]
end
def kRows (k : IntKind) (L : List Int) : List (List PV) := L.map fun w => [.int k w]
@[go_sem] theorem kRows_length (k : IntKind) (L : List Int) : (kRows k L).length = L.length := nr (by simp [kRows])
@[go_sem] theorem kRows_ok (k : IntKind) (L : List Int) : rowsOK 1 (kRows k L) = true := nr (enc_ok (enc := fun w : Int => [.int k w]) (fun _ => rfl) L)
@[go_sem] theorem kRows_refs (k : IntKind) : ∀ L : List Int, rowsRefs (kRows k L) = []
  | [] => rfl
  | a :: r => by
    have := kRows_refs k r
    simp only [kRows, List.map_cons, rowsRefs_cons] at this ⊢
    rw [this]; rfl
theorem kRows_nil (k : IntKind) : kRows k [] = [] := rfl
theorem kRows_cons (k : IntKind) (a : Int) (l : List Int) : kRows k (a :: l) = [.int k a] :: kRows k l := rfl
theorem kRows_append (k : IntKind) (a b : List Int) : kRows k (a ++ b) = kRows k a ++ kRows k b := by simp [kRows]
theorem kRows_replicate (k : IntKind) (n : Nat) (x : Int) : List.replicate n [PV.int k x] = kRows k (List.replicate n x) := by simp [kRows]
theorem kRows_set (k : IntKind) (L : List Int) (i : Nat) (x : Int) : (kRows k L).set i [.int k x] = kRows k (L.set i x) := by simp [kRows, List.map_set]
theorem kRows_get (k : IntKind) (L : List Int) {i : Nat} (h : i < L.length) : (kRows k L).getD i [] = [.int k (L.getD i 0)] := enc_get L 0 h
theorem kRows_take (k : IntKind) (L : List Int) (n : Nat) : (kRows k L).take n = kRows k (L.take n) := by simp [kRows, List.map_take]
theorem kRows_drop (k : IntKind) (L : List Int) (n : Nat) : (kRows k L).drop n = kRows k (L.drop n) := by simp [kRows, List.map_drop]
theorem SlT.idxk {t el : TypeId} {bytes : Nat} (h : SlT t el 1 bytes) (k : IntKind) (S : Store) (L : List Int) (ex : Bool) (i : Int) : indexAddrO Tryz.prog t S (.sl (kRows k L) ex) (.int .i64 i) = if 0 ≤ i ∧ i < L.length then some (.cp [.int k (L.getD i.toNat 0)]) else none := h.idx (fun _ => rfl) 0 S L ex i
theorem SlT.idxmk {t el : TypeId} {bytes : Nat} (h : SlT t el 1 bytes) (k : IntKind) {S : Store} {id off n : Nat} {ex : Bool} {L : List Int} (i : Nat) (hS : rowsAt S id = some (kRows k L)) (hl : off + n ≤ L.length) (hi : i < n) : indexAddrO Tryz.prog t S (.msl id off n ex) (.int .i64 i) = some (.mp id (off + i) 0) := h.idxm i hS (by rw [kRows_length]; exact hl) (kRows_ok k L) hi
theorem kRows_fzR (S : Store) (d : Nat) (k : IntKind) (L : List Int) : mapO (mapO (fzCell S (d + 1))) (kRows k L) = some (kRows k L) := by
  have := mapO_all (f := mapO (fzCell S (d + 1))) (g := fun x => x) (l := kRows k L) (fun a ha => by
    obtain ⟨w, _, rfl⟩ := List.mem_map.1 ha
    rfl)
  simpa using this
theorem kRows_fz {S : Store} {id n : Nat} {k : IntKind} {L : List Int} {ex : Bool} (h : rowsAt S id = some (kRows k L)) (hn : L.length = n) (d : Nat) : fzCell S (d + 2) (.msl id 0 n ex) = some (.sl (kRows k L) false) := by
  have e1 : rowsIn S (.msl id 0 n false) = some (kRows k L) := by
    rw [rowsIn_msl, h]
    simp only [Option.bind_some, Nat.zero_add, List.drop_zero, kRows_length, hn, Nat.le_refl, if_true]
    rw [← hn, ← kRows_length k L, List.take_length]
  show ((rowsIn S (.msl id 0 n false)).bind fun rows => (mapO (mapO (fzCell S (d + 1))) rows).map fun rows => PV.sl rows false) = _
  rw [e1]
  simp only [Option.bind_some, kRows_fzR, Option.map_some]
theorem kRows_fzV {S : Store} {id n : Nat} {k : IntKind} {L : List Int} {ex : Bool} (h : rowsAt S id = some (kRows k L)) (hn : L.length = n) : fzPV S (.msl id 0 n ex) = some (.sl (kRows k L) false) := kRows_fz (ex := ex) h hn 6
theorem reach_one {S : Store} {id : Nat} {rows : List (List PV)} (h : rowsAt S id = some rows) (hr : rowsRefs rows = []) (d : Nat) : reach S (d + 1) [id] = [id] := by
  simp [reach_eq, h, hr, reach_none]
theorem callO_msl {S : Store} {f : FuncId} {id n : Nat} {k : IntKind} {L : List Int} {ex : Bool} {v : PV} (hc : callL Tryz.prog hints f [.sl (kRows k L) false] = some v) (h : rowsAt S id = some (kRows k L)) (hn : L.length = n) (hid : id < S.length) : callO (callL Tryz.prog hints) S f [.msl id 0 n ex] = some { v, fz := [id] } := by
  have e : (List.flatMap PV.refs [PV.msl id 0 n ex]) = [id] := rfl
  unfold callO
  rw [e, reach_one h (kRows_refs k L)]
  simp only [List.all_cons, List.all_nil, Bool.and_true, decide_eq_true hid, if_true, mapO, kRows_fzV h hn, Option.bind_some, hc, Option.map_some]
end Go.Vs
end
section
set_option linter.unusedVariables false
set_option linter.unusedSimpArgs false
namespace Go.Vs
def valD (b : Nat) : List Int → Int
  | [] => 0
  | w :: r => w + b * valD b r
def OkD (b : Nat) (l : List Int) : Prop := ∀ w ∈ l, 0 ≤ w ∧ w < b
def trimD : List Int → List Int
  | [] => []
  | w :: r => if trimD r = [] ∧ w = 0 then [] else w :: trimD r
def digs (b : Nat) (n : Nat) : List Int := if h : n = 0 ∨ b < 2 then [] else ((n % b : Nat) : Int) :: digs b (n / b)
termination_by n
decreasing_by exact Nat.div_lt_self (by omega) (by omega)
theorem digs_zero (b : Nat) : digs b 0 = [] := by rw [digs]; simp
theorem digs_pos {b n : Nat} (hb : 2 ≤ b) (hn : n ≠ 0) : digs b n = ((n % b : Nat) : Int) :: digs b (n / b) := by
  rw [digs, dif_neg (by omega)]
theorem OkD.tail {b : Nat} {w : Int} {l : List Int} (h : OkD b (w :: l)) : OkD b l := fun x hx => h x (List.mem_cons_of_mem _ hx)
theorem OkD.head {b : Nat} {w : Int} {l : List Int} (h : OkD b (w :: l)) : 0 ≤ w ∧ w < b := h w (by simp)
theorem OkD.cons {b : Nat} {w : Int} {l : List Int} (h : 0 ≤ w ∧ w < b) (hl : OkD b l) : OkD b (w :: l) := fun x hx => by
  rcases List.mem_cons.1 hx with rfl | hx
  · exact h
  · exact hl x hx
theorem OkD.nil (b : Nat) : OkD b [] := fun x hx => by cases hx
theorem OkD.append {b : Nat} {l m : List Int} (h : OkD b l) (hm : OkD b m) : OkD b (l ++ m) := fun x hx => by
  rcases List.mem_append.1 hx with hx | hx
  · exact h x hx
  · exact hm x hx
theorem OkD.getD {b : Nat} {l : List Int} (h : OkD b l) (hb : 0 < b) (i : Nat) : 0 ≤ l.getD i 0 ∧ l.getD i 0 < b := by
  by_cases hi : i < l.length
  · have := h (l.getD i 0) (by simp [List.getD_eq_getElem?_getD, hi])
    exact this
  · rw [List.getD_eq_getElem?_getD, List.getElem?_eq_none (by omega)]
    exact ⟨Int.le_refl 0, by simp; omega⟩
theorem valD_nonneg {b : Nat} : ∀ {l : List Int}, OkD b l → 0 ≤ valD b l
  | [], _ => Int.le_refl 0
  | w :: r, h => by
    have h1 := h.head
    have h2 := valD_nonneg h.tail
    have h3 : 0 ≤ (b : Int) * valD b r := Int.mul_nonneg (by omega) h2
    rw [valD]; omega
theorem valD_append (b : Nat) : ∀ (l m : List Int), valD b (l ++ m) = valD b l + (b : Int) ^ l.length * valD b m
  | [], m => by simp [valD]
  | w :: l, m => by
    rw [List.cons_append, valD, valD_append b l m, valD, List.length_cons, Int.pow_succ]
    rw [Int.mul_add, Int.add_assoc, ← Int.mul_assoc, Int.mul_comm ((b : Int) ^ l.length) b]
theorem valD_lt {b : Nat} : ∀ {l : List Int}, OkD b l → valD b l < (b : Int) ^ l.length
  | [], _ => by simp [valD]
  | w :: r, h => by
    have h1 := h.head
    have h2 := valD_lt h.tail
    have h3 : (b : Int) * (valD b r + 1) ≤ (b : Int) * (b : Int) ^ r.length := Int.mul_le_mul_of_nonneg_left (by omega) (by omega)
    rw [Int.mul_add] at h3
    rw [valD, List.length_cons, Int.pow_succ, Int.mul_comm ((b : Int) ^ r.length)]
    omega
theorem valD_trim (b : Nat) : ∀ l : List Int, valD b (trimD l) = valD b l
  | [] => rfl
  | w :: r => by
    have ih := valD_trim b r
    rw [trimD]
    split
    · rename_i h
      rw [h.1] at ih
      show 0 = w + b * valD b r
      rw [← ih, h.2]
      simp [valD]
    · rw [valD, valD, ih]
theorem trimD_length : ∀ l : List Int, (trimD l).length ≤ l.length
  | [] => Nat.le_refl 0
  | w :: r => by
    have := trimD_length r
    rw [trimD]
    split
    · simp
    · simp only [List.length_cons]; omega
theorem trimD_snoc0 : ∀ l : List Int, trimD (l ++ [0]) = trimD l
  | [] => by simp [trimD]
  | w :: r => by rw [List.cons_append, trimD, trimD, trimD_snoc0 r]
theorem trimD_snoc {x : Int} (hx : x ≠ 0) : ∀ l : List Int, trimD (l ++ [x]) = l ++ [x]
  | [] => by simp [trimD, hx]
  | w :: r => by
    rw [List.cons_append, trimD, trimD_snoc hx r, if_neg]
    intro h
    have := h.1
    simp at this
theorem trimD_digs {b : Nat} (hb : 2 ≤ b) : ∀ {l : List Int}, OkD b l → trimD l = digs b (valD b l).toNat
  | [], _ => by rw [trimD, valD]; exact (digs_zero b).symm
  | w :: r, h => by
    have ih := trimD_digs hb h.tail
    have h1 := h.head
    have h2 := valD_nonneg h.tail
    have h3 : 0 ≤ (b : Int) * valD b r := Int.mul_nonneg (by omega) h2
    rw [trimD]
    by_cases hc : trimD r = [] ∧ w = 0
    · rw [if_pos hc]
      have : valD b r = 0 := by rw [← valD_trim b r, hc.1]; rfl
      rw [valD, this, hc.2]
      simp [digs_zero]
    · rw [if_neg hc]
      have hne : (valD b (w :: r)).toNat ≠ 0 := by
        intro h0
        have e : w + b * valD b r = 0 := by rw [valD] at h0; omega
        have hw : w = 0 := by omega
        have hbr : (b : Int) * valD b r = 0 := by omega
        have hr : valD b r = 0 := by
          rcases Int.mul_eq_zero.1 hbr with h | h
          · omega
          · exact h
        refine hc ⟨?_, hw⟩
        rw [ih, hr]
        exact digs_zero b
      rw [digs_pos hb hne, ih]
      have e1 : (valD b (w :: r)).toNat = w.toNat + b * (valD b r).toNat := by
        rw [valD]
        have e2 : ((b * (valD b r).toNat : Nat) : Int) = (b : Int) * valD b r := by
          rw [Int.natCast_mul, Int.toNat_of_nonneg h2]
        omega
      have hwb : w.toNat < b := by omega
      rw [e1]
      congr 1
      · rw [Nat.add_mul_mod_self_left, Nat.mod_eq_of_lt hwb]
        omega
      · rw [Nat.add_mul_div_left _ _ (by omega), Nat.div_eq_of_lt hwb, Nat.zero_add]
theorem digs_ok {b : Nat} (hb : 2 ≤ b) (n : Nat) : OkD b (digs b n) := by
  induction n using Nat.strongRecOn with
  | ind n ih =>
    by_cases h : n = 0
    · subst h; rw [digs_zero]; exact .nil b
    · rw [digs_pos hb h]
      exact .cons ⟨by omega, by have := Nat.mod_lt n (show 0 < b by omega); omega⟩ (ih _ (Nat.div_lt_self (by omega) (by omega)))
theorem valD_digs {b : Nat} (hb : 2 ≤ b) (n : Nat) : valD b (digs b n) = n := by
  induction n using Nat.strongRecOn with
  | ind n ih =>
    by_cases h : n = 0
    · subst h; rw [digs_zero]; rfl
    · rw [digs_pos hb h, valD, ih _ (Nat.div_lt_self (by omega) (by omega))]
      have := Nat.mod_add_div n b
      have e : ((b * (n / b) : Nat) : Int) = (b : Int) * ((n / b : Nat) : Int) := Int.natCast_mul _ _
      omega
theorem digs_trim {b : Nat} (hb : 2 ≤ b) (n : Nat) : trimD (digs b n) = digs b n := by
  rw [trimD_digs hb (digs_ok hb n), valD_digs hb, Int.toNat_natCast]
theorem digs_of {b : Nat} (hb : 2 ≤ b) {l : List Int} (h : OkD b l) (hl : ∀ x r, l = r ++ [x] → x ≠ 0) : l = digs b (valD b l).toNat := by
  rw [← trimD_digs hb h]
  rcases List.eq_nil_or_concat l with rfl | ⟨r, x, rfl⟩
  · rfl
  · rw [List.concat_eq_append] at hl ⊢
    rw [trimD_snoc (hl x r rfl)]
theorem digs_nil {b n : Nat} (hb : 2 ≤ b) : digs b n = [] ↔ n = 0 := by
  constructor
  · intro h
    by_cases h0 : n = 0
    · exact h0
    · rw [digs_pos hb h0] at h; cases h
  · rintro rfl; exact digs_zero b
theorem digs_le {b : Nat} (hb : 2 ≤ b) : ∀ (k n : Nat), (digs b n).length ≤ k ↔ n < b ^ k
  | 0, n => by
    rw [Nat.pow_zero, Nat.le_zero, List.length_eq_zero_iff, digs_nil hb]
    omega
  | k + 1, n => by
    by_cases h : n = 0
    · subst h
      rw [digs_zero]
      simp
      exact Nat.pow_pos (by omega)
    · rw [digs_pos hb h, List.length_cons, Nat.add_le_add_iff_right, digs_le hb k (n / b), Nat.pow_succ, Nat.div_lt_iff_lt_mul (by omega)]
theorem digs_mono {b m n : Nat} (hb : 2 ≤ b) (h : m ≤ n) : (digs b m).length ≤ (digs b n).length :=
  (digs_le hb _ m).2 (Nat.lt_of_le_of_lt h ((digs_le hb _ n).1 (Nat.le_refl _)))
theorem digs_lt {b : Nat} (hb : 2 ≤ b) (n : Nat) : n < b ^ (digs b n).length := (digs_le hb _ n).1 (Nat.le_refl _)
theorem digs_mul {b m n j k : Nat} (hb : 2 ≤ b) (hm : (digs b m).length ≤ j) (hn : (digs b n).length ≤ k) : (digs b (m * n)).length ≤ j + k := by
  rw [digs_le hb] at *
  rw [Nat.pow_add]
  exact Nat.mul_lt_mul'' hm hn
theorem digs_last {b n : Nat} (hb : 2 ≤ b) (h : n ≠ 0) : (digs b n).getD ((digs b n).length - 1) 0 ≠ 0 := by
  have hne : digs b n ≠ [] := fun e => h ((digs_nil hb).1 e)
  rcases List.eq_nil_or_concat (digs b n) with e | ⟨r, x, e⟩
  · exact absurd e hne
  · rw [List.concat_eq_append] at e
    rw [e]
    have hx : x ≠ 0 := by
      intro hx
      subst hx
      have a := digs_trim hb n
      rw [e, trimD_snoc0] at a
      have := trimD_length r
      rw [a] at this
      simp at this
      omega
    simpa [List.getD_eq_getElem?_getD] using hx
theorem valD_cmp {b : Nat} : ∀ {l m : List Int}, OkD b l → OkD b m → l.length = m.length → ∀ {x y : Int}, 0 ≤ x → x < b → 0 ≤ y → y < b → x < y → valD b (l ++ [x]) < valD b (m ++ [y]) := by
  intro l m hl hm he x y hx hx' hy hy' hlt
  rw [valD_append, valD_append, he]
  have h1 := valD_lt hl
  have h2 := valD_nonneg hm
  rw [he] at h1
  have h3 : (b : Int) ^ m.length * (x + 1) ≤ (b : Int) ^ m.length * y := Int.mul_le_mul_of_nonneg_left (by omega) (Int.pow_nonneg (by omega))
  rw [Int.mul_add, Int.mul_one] at h3
  simp only [valD, Int.mul_zero, Int.add_zero]
  omega
end Go.Vs
end
section
set_option linter.unusedVariables false
set_option linter.unusedSimpArgs false
set_option maxRecDepth 100000
namespace Go.Vs
open Go Go.Proofs
theorem sl_us : SlT 25 126 1 4 := ⟨by kernel_rfl, by kernel_rfl, by kernel_rfl, by kernel_rfl, by kernel_rfl⟩
@[go_sem] theorem len_us (r : List (List PV)) (ex : Bool) : lenO (tyi Tryz.prog 25) (.sl r ex) = some (.int .i64 r.length) := sl_us.len r ex
@[go_sem] theorem lenm_us (i o l : Nat) (ex : Bool) : lenO (tyi Tryz.prog 25) (.msl i o l ex) = some (.int .i64 l) := sl_us.lenm i o l ex
@[go_sem] theorem idx_us (S : Store) (L : List Int) (ex : Bool) (i : Int) : indexAddrO Tryz.prog 25 S (.sl (kRows .u32 L) ex) (.int .i64 i) = if 0 ≤ i ∧ i < L.length then some (.cp [.int .u32 (L.getD i.toNat 0)]) else none := sl_us.idxk .u32 S L ex i
@[go_sem] theorem known_u32 : (tyi Tryz.prog 126).known = true := nr (by kernel_rfl)
@[go_sem] theorem size_u32 : (tyi Tryz.prog 126).size = 1 := nr (by kernel_rfl)
@[go_sem] theorem part_u32 (v : PV) (r : List PV) : part (tyi Tryz.prog 126) (v :: r) = some v := by
  have e : (tyi Tryz.prog 126).isAgg = false := by kernel_rfl
  simp [part, known_u32, e]
theorem d_u32 : (tyi Tryz.prog 126).d = .int .u32 := by kernel_rfl
theorem d_u64 : (tyi Tryz.prog 161).d = .int .u64 := by kernel_rfl
theorem known_u64 : (tyi Tryz.prog 161).known = true := by kernel_rfl
@[go_sem] theorem conv_u32_u64 (S : Store) (k : IntKind) (n : Int) : convertO Tryz.prog 126 161 S (.int k n) = some (.int .u64 (IntKind.u64.wrap n)) := by simp [convertO, known_u32, evConvert, d_u64]
@[go_sem] theorem conv_u64_u32 (S : Store) (k : IntKind) (n : Int) : convertO Tryz.prog 161 126 S (.int k n) = some (.int .u32 (IntKind.u32.wrap n)) := by simp [convertO, known_u64, evConvert, d_u32]
@[go_sem] theorem build_us (id n : Nat) (is : List Nat) (rows : List (List PV)) : buildSliceO Tryz.prog 25 id n is rows = if is = List.range n ∧ rowsOK 1 rows = true ∧ (rows.all fun r => r.all PV.cell) = true ∧ n * 1 ≤ 16777216 then some { v := .msl id 0 n true, new := some (rows, some (some 1)) } else none := sl_us.buildSlice (by decide) id n is rows
theorem zero_u32 : (tyi Tryz.prog 126).zero = some [.int .u32 0] := by kernel_rfl
theorem make_us (id n : Nat) (hn : n ≤ 40000000000000) : makeSliceO Tryz.prog 25 id (.int .i64 n) (.int .i64 n) = some { v := .msl id 0 n true, new := some (kRows .u32 (List.replicate n 0), some (some 1)) } := by
  rw [sl_us.make zero_u32 id n (by omega) (by omega), kRows_replicate]
abbrev WB : Nat := 4294967296
def words (n : Nat) : List Int := digs WB n
def magV (n : Nat) : PV := .sl (kRows .u32 (words n)) false
theorem WB2 : 2 ≤ WB := by decide
section
attribute [local irreducible] Vs.callL Vs.callRL tyi callO callM callMV appendE storeE evLoad indexAddrO sliceO evFieldAddr evField buildO buildSliceO makeSliceO allocO boxed lenO copyE convertO indexO Vs.gc freezeAll
noncomputable def fx152_ : FX := ⟨Tryz.f152, hints.of 152, []⟩
theorem ok152_ : fx152_.ok 152 := ⟨by kernel_rfl, of_decide_eq_true (by kernel_rfl), by kernel_rfl, by kernel_rfl, by kernel_rfl, by kernel_rfl⟩
theorem sem152_ (b0 : Nat) (m : Md) (fs : List Fr) (e : Env) (S : Store) : sem b0 fx152_ m fs e S = run b0 fx152_ 1000 m fs e S := (sem_eq _ _ _ _ _ _).trans (run_sem b0 fx152_ ok152_.good 1000 m fs e S).symm
theorem loop_Trim (fs : List Fr) {z : PV × Store} : ∀ (n : Nat) (L : List Int), L.length = n → n ≤ maxLen → exitTo 0 fx152_ 0 fs [(0, .sl (kRows .u32 (trimD L)) false), (14, .undef)] [] = some z → loopAt 0 fx152_ 0 24 0 fs [(0, .sl (kRows .u32 L) false)] [] = some z := by
  have hm := maxLen_le
  intro n
  induction n with
  | zero =>
    intro L hL hn hz
    obtain rfl : L = [] := List.eq_nil_of_length_eq_zero hL
    refine loopAt_step ok152_.good 1000 ?_
    ((repeat ((conv => lhs; whnf); simp only [go_sem, simprocAttr, sem152_, kRows_nil])); try (conv => lhs; whnf); try rfl)
    exact hz
  | succ n ih =>
    intro L hL hn hz
    rcases List.eq_nil_or_concat L with rfl | ⟨r, x, rfl⟩
    · simp at hL
    · rw [List.concat_eq_append] at hL hz ⊢
      have hr : r.length = n := by simpa using hL
      have h0 : (0 : Int) < (r.length : Int) + 1 := by omega
      have w1 : IntKind.i64.wrap ((r.length : Int) + 1 - 1) = (r.length : Int) := by rw [IntKind.wrap_i64]; omega
      have h1 : 0 ≤ (r.length : Int) ∧ (r.length : Int) < (r.length : Int) + 1 := ⟨by omega, by omega⟩
      have g1 : (r ++ [x]).getD r.length 0 = x := by simp [List.getD_eq_getElem?_getD]
      have t1 : (kRows .u32 (r ++ [x])).take r.length = kRows .u32 r := by rw [kRows_take]; simp
      have sl := sl_us.firsts [] (rows := kRows .u32 (r ++ [x])) false r.length (by rw [kRows_length, List.length_append]; omega) (kRows_ok .u32 _)
      rw [t1] at sl
      refine loopAt_step ok152_.good 1000 ?_
      by_cases hx : x = 0
      · subst hx
        rw [trimD_snoc0] at hz
        have key := ih r hr (by omega) hz
        ((repeat ((conv => lhs; whnf); simp only [go_sem, simprocAttr, sem152_, List.length_append, Int.natCast_add, Int.cast_ofNat_Int, h0, w1, h1, Int.toNat_natCast, g1, sl])); try (conv => lhs; whnf); try rfl)
        exact key
      · rw [trimD_snoc hx] at hz
        ((repeat ((conv => lhs; whnf); simp only [go_sem, simprocAttr, sem152_, List.length_append, Int.natCast_add, Int.cast_ofNat_Int, h0, w1, h1, Int.toNat_natCast, g1, hx])); try (conv => lhs; whnf); try rfl)
        exact hz
theorem call_Trim (L : List Int) (hL : L.length ≤ maxLen) : callL Tryz.prog hints 152 [.sl (kRows .u32 L) false] = some (.sl (kRows .u32 (trimD L)) false) := by
  refine FX.callL (r := (.sl (kRows .u32 (trimD L)) false, [])) ok152_ 1000 rfl rfl ?_ (fzPV_sl _ _)
  ((repeat ((conv => lhs; whnf); simp only [go_sem, simprocAttr, sem152_])); try (conv => lhs; whnf); try rfl)
  refine loop_Trim _ L.length L rfl hL ?_
  refine exit_run ok152_.good 1000 ?_
  ((repeat ((conv => lhs; whnf); simp only [go_sem, simprocAttr, sem152_])); try (conv => lhs; whnf); try rfl)
theorem call_Trim_ok {L : List Int} (hL : L.length ≤ maxLen) (h : OkD WB L) : callL Tryz.prog hints 152 [.sl (kRows .u32 L) false] = some (magV (valD WB L).toNat) := by
  rw [call_Trim L hL, trimD_digs WB2 h]; rfl
end
end Go.Vs
end
section
set_option linter.unusedVariables false
set_option linter.unusedSimpArgs false
set_option maxRecDepth 100000
namespace Go.Vs
open Go Go.Proofs
theorem wU64 (n : Int) : IntKind.u64.wrap n = n % 18446744073709551616 := by
  simp [IntKind.wrap, IntKind.bits, IntKind.signed]
@[go_sem] theorem pow32_64 : (2 : Int) ^ min 32 IntKind.u64.bits = 4294967296 := nr (by decide)
@[go_sem] theorem pow63_64 : (2 : Int) ^ min 63 IntKind.u64.bits = 9223372036854775808 := nr (by decide)
@[go_sem] theorem pow32_64' : (2 : Int) ^ min 32 64 = 4294967296 := nr (by decide)
@[go_sem] theorem pow63_64' : (2 : Int) ^ min 63 64 = 9223372036854775808 := nr (by decide)
@[go_sem] theorem fdiv_32 (a : Int) : a.fdiv 4294967296 = a / 4294967296 := Int.fdiv_eq_ediv_of_nonneg _ (by decide)
@[go_sem] theorem fdiv_63 (a : Int) : a.fdiv 9223372036854775808 = a / 9223372036854775808 := Int.fdiv_eq_ediv_of_nonneg _ (by decide)
def bor (k : IntKind) (a b : Int) : Int := k.wrap (BitVec.ofInt k.bits a ||| BitVec.ofInt k.bits b).toNat
@[go_sem ↓] theorem bor_fold (k : IntKind) (a b : Int) : k.wrap (BitVec.ofInt k.bits a ||| BitVec.ofInt k.bits b).toNat = bor k a b := rfl
theorem bor_high {h l : Int} (hh : 0 ≤ h ∧ h < 4294967296) (hl : 0 ≤ l ∧ l < 4294967296) : bor .u64 (h * 4294967296) l = h * 4294967296 + l := by
  obtain ⟨a, rfl⟩ : ∃ a : Nat, h = a := ⟨h.toNat, by omega⟩
  obtain ⟨b, rfl⟩ : ∃ b : Nat, l = b := ⟨l.toNat, by omega⟩
  have e1 : ((a : Int) * 4294967296) = ((a * 4294967296 : Nat) : Int) := by omega
  rw [e1]
  show IntKind.u64.wrap (((BitVec.ofInt 64 ((a * 4294967296 : Nat) : Int) ||| BitVec.ofInt 64 (b : Int)).toNat : Nat) : Int) = _
  rw [BitVec.toNat_or, BitVec.ofInt_natCast, BitVec.ofInt_natCast, BitVec.toNat_ofNat, BitVec.toNat_ofNat, Nat.mod_eq_of_lt (by omega), Nat.mod_eq_of_lt (by omega)]
  have e2 : a * 4294967296 ||| b = a * 4294967296 + b := by
    have := Nat.shiftLeft_add_eq_or_of_lt (i := 32) (b := b) (by omega) a
    rw [Nat.shiftLeft_eq] at this
    exact this.symm
  rw [e2, wU64]
  omega
theorem words_ok (n : Nat) : OkD WB (words n) := digs_ok WB2 n
theorem words_val (n : Nat) : valD WB (words n) = n := valD_digs WB2 n
def magE (n : Nat) (ex : Bool) : PV := .sl (kRows .u32 (words n)) ex
section
attribute [local irreducible] Vs.callL Vs.callRL tyi callO callM callMV appendE storeE evLoad indexAddrO sliceO evFieldAddr evField buildO buildSliceO makeSliceO allocO boxed lenO copyE convertO indexO Vs.gc freezeAll
noncomputable def fx170_ : FX := ⟨Tryz.f170, hints.of 170, []⟩
theorem ok170_ : fx170_.ok 170 := ⟨by kernel_rfl, of_decide_eq_true (by kernel_rfl), by kernel_rfl, by kernel_rfl, by kernel_rfl, by kernel_rfl⟩
theorem sem170_ (b0 : Nat) (m : Md) (fs : List Fr) (e : Env) (S : Store) : sem b0 fx170_ m fs e S = run b0 fx170_ 1000 m fs e S := (sem_eq _ _ _ _ _ _).trans (run_sem b0 fx170_ ok170_.good 1000 m fs e S).symm
theorem call_From (n : Nat) (hn : n < 18446744073709551616) : callL Tryz.prog hints 170 [.int .u64 n] = some (magV n) := by
  have e1 : IntKind.u32.wrap (n : Int) = ((n % 4294967296 : Nat) : Int) := by rw [IntKind.wrap_u32]; omega
  have e2 : IntKind.u32.wrap ((n : Int) / 4294967296) = ((n / 4294967296 : Nat) : Int) := by rw [IntKind.wrap_u32]; omega
  have hL : OkD WB [((n % 4294967296 : Nat) : Int), ((n / 4294967296 : Nat) : Int)] := .cons ⟨by omega, by show _ < ((4294967296 : Nat) : Int); omega⟩ (.cons ⟨by omega, by show _ < ((4294967296 : Nat) : Int); omega⟩ (.nil _))
  have ct := call_Trim_ok (L := [((n % 4294967296 : Nat) : Int), ((n / 4294967296 : Nat) : Int)]) (show 2 ≤ maxLen by decide) hL
  have ev : (valD WB [((n % 4294967296 : Nat) : Int), ((n / 4294967296 : Nat) : Int)]).toNat = n := by
    show (((n % 4294967296 : Nat) : Int) + ((4294967296 : Nat) : Int) * (((n / 4294967296 : Nat) : Int) + ((4294967296 : Nat) : Int) * 0)).toNat = n
    omega
  rw [ev] at ct
  have c1 := callO_msl (S := [.arr (kRows .u32 [((n % 4294967296 : Nat) : Int), ((n / 4294967296 : Nat) : Int)]) (some (some 1)) false]) (id := 0) (n := 2) (ex := true) ct rfl rfl (by simp)
  have er : [[PV.int .u32 ((n % 4294967296 : Nat) : Int)], [PV.int .u32 ((n / 4294967296 : Nat) : Int)]] = kRows .u32 [((n % 4294967296 : Nat) : Int), ((n / 4294967296 : Nat) : Int)] := rfl
  refine FX.callL (r := (magV n, freezeAll [.arr (kRows .u32 [((n % 4294967296 : Nat) : Int), ((n / 4294967296 : Nat) : Int)]) (some (some 1)) false] [0])) ok170_ 1000 rfl rfl ?_ (fzPV_sl _ _)
  ((repeat ((conv => lhs; whnf); simp only [go_sem, simprocAttr, sem170_, e1, e2, er, c1])); try (conv => lhs; whnf); try rfl)
noncomputable def fx176_ : FX := ⟨Tryz.f176, hints.of 176, []⟩
theorem ok176_ : fx176_.ok 176 := ⟨by kernel_rfl, of_decide_eq_true (by kernel_rfl), by kernel_rfl, by kernel_rfl, by kernel_rfl, by kernel_rfl⟩
theorem sem176_ (b0 : Nat) (m : Md) (fs : List Fr) (e : Env) (S : Store) : sem b0 fx176_ m fs e S = run b0 fx176_ 1000 m fs e S := (sem_eq _ _ _ _ _ _).trans (run_sem b0 fx176_ ok176_.good 1000 m fs e S).symm
theorem call_Small (n : Nat) (ex : Bool) : callL Tryz.prog hints 176 [magE n ex] = some (if n < 18446744073709551616 then .tup [.int .u64 n, .bool true] else .tup [.int .u64 0, .bool false]) := by
  have ho := words_ok n
  have hv := words_val n
  have hl := digs_le WB2 2 n
  have hl' : (words n).length ≤ 2 ↔ n < 18446744073709551616 := hl
  unfold magE
  generalize words n = L at *
  rcases L with _ | ⟨a, _ | ⟨b, _ | ⟨c, L⟩⟩⟩
  · rw [if_pos (hl'.1 (by simp))]
    have e : n = 0 := by
      have : (n : Int) = 0 := hv.symm
      omega
    subst e
    refine FX.callL (r := (.tup [.int .u64 0, .bool true], [])) ok176_ 1000 rfl rfl ?_ rfl
    ((repeat ((conv => lhs; whnf); simp only [go_sem, simprocAttr, sem176_])); try (conv => lhs; whnf); try rfl)
  · rw [if_pos (hl'.1 (by simp))]
    have h1 := ho.head
    have e : (n : Int) = a := by
      have : a + ((4294967296 : Nat) : Int) * 0 = (n : Int) := hv
      omega
    rw [e]
    have w : IntKind.u64.wrap a = a := by
      have : a < ((4294967296 : Nat) : Int) := h1.2
      rw [wU64]; omega
    refine FX.callL (r := (.tup [.int .u64 a, .bool true], [])) ok176_ 1000 rfl rfl ?_ rfl
    have g0 : ([a] : List Int).getD (Int.toNat 0) 0 = a := rfl
    ((repeat ((conv => lhs; whnf); simp only [go_sem, simprocAttr, sem176_, w, g0])); try (conv => lhs; whnf); try rfl)
  · rw [if_pos (hl'.1 (by simp))]
    have h1 := ho.head
    have h2 := ho.tail.head
    have h1' : a < 4294967296 := h1.2
    have h2' : b < 4294967296 := h2.2
    have e : (n : Int) = b * 4294967296 + a := by
      have : a + ((4294967296 : Nat) : Int) * (b + ((4294967296 : Nat) : Int) * 0) = (n : Int) := hv
      omega
    rw [e]
    have w : IntKind.u64.wrap a = a := by rw [wU64]; omega
    have w2 : IntKind.u64.wrap b = b := by rw [wU64]; omega
    have w3 : IntKind.u64.wrap (b * 4294967296) = b * 4294967296 := by rw [wU64]; omega
    have o := bor_high ⟨h2.1, h2'⟩ ⟨h1.1, h1'⟩
    refine FX.callL (r := (.tup [.int .u64 (b * 4294967296 + a), .bool true], [])) ok176_ 1000 rfl rfl ?_ rfl
    have g0 : ([a, b] : List Int).getD 0 0 = a := rfl
    have g1 : ([a, b] : List Int).getD 1 0 = b := rfl
    have l0 : (0 : Int) ≤ 0 ∧ (0 : Int) < ((2 : Nat) : Int) := by decide
    have l1 : (0 : Int) ≤ 1 ∧ (1 : Int) < ((2 : Nat) : Int) := by decide
    ((repeat ((conv => lhs; whnf); simp only [go_sem, simprocAttr, sem176_, w, w2, w3, g0, g1, o])); try (conv => lhs; whnf); try rfl)
  · rw [if_neg (fun h => by have := hl'.2 h; simp at this)]
    have z0 : ¬ ((L.length : Int) + 1 + 1 + 1 = 0) := by omega
    have z1 : ¬ ((L.length : Int) + 1 + 1 + 1 = 1) := by omega
    have z2 : ¬ ((L.length : Int) + 1 + 1 + 1 = 2) := by omega
    refine FX.callL (r := (.tup [.int .u64 0, .bool false], [])) ok176_ 1000 rfl rfl ?_ rfl
    ((repeat ((conv => lhs; whnf); simp only [go_sem, simprocAttr, sem176_, Int.natCast_add, Int.cast_ofNat_Int, z0, z1, z2])); try (conv => lhs; whnf); try rfl)
end
end Go.Vs
end
