/- Rules by which simp runs the printed pieces on typed values. -/
import Derived.IntWalk
import Derived.Test.YtnddhkcciphhkaaRows
import Derived.Test.YtnddhkcciphhkaaME7
import Derived.Test.YtnddhkcciphhkaaME9
section
set_option linter.unusedVariables false
set_option linter.unusedSimpArgs false
namespace Go.Vs
open Go Go.Proofs
attribute [go_sem] if_true if_false eq_self Bool.false_eq_true Bool.true_eq_false Bool.not_true Bool.not_false and_self and_true true_and and_false false_and not_true_eq_false not_false_eq_true

section
variable {R : Type}
@[congr] theorem withV_congr {x y : Option PV} {K : PV → Option R} (h : x = y) : withV x K = withV y K := by rw [h]
@[congr] theorem withN_congr {x y : Option Out} {S S' : Store} {K : PV → Store → Option R} (h : x = y) (hS : S = S') : withN x S K = withN y S' K := by rw [h, hS]
@[congr] theorem withE_congr {x y : Option Eff} {e e' : Env} {K : PV → Env → Store → Option R} (h : x = y) (he : e = e') : withE x e K = withE y e' K := by rw [h, he]
@[congr] theorem withS_congr {x y : Option Eff} {K : PV → Store → Option R} (h : x = y) : withS x K = withS y K := by rw [h]
@[congr] theorem withO_congr {S S' : Store} {x y : PV} {K : PV → Store → Option R} (hS : S = S') (h : x = y) : withO S x K = withO S' y K := by rw [hS, h]
@[congr] theorem withF_congr {S S' : Store} {x y : PV} {K : PV → Store → Option R} (hS : S = S') (h : x = y) : withF S x K = withF S' y K := by rw [hS, h]
@[congr] theorem condC_congr {v v' : PV} {x y : Option R} (h : v = v') : condC v x y = condC v' x y := by rw [h]
/-- A choice by the value of a boolean, its two ways kept apart. -/
@[go_sem 500] theorem withV_bool (b : Bool) (K : PV → Option R) : withV (some (.bool b)) K = if b = true then K (.bool true) else K (.bool false) := by cases b <;> rfl
@[go_sem] theorem withV_true (K : PV → Option R) : withV (some (.bool true)) K = K (.bool true) := nr rfl
@[go_sem] theorem withV_false (K : PV → Option R) : withV (some (.bool false)) K = K (.bool false) := nr rfl
@[go_sem] theorem withV_dec (p : Prop) [Decidable p] (K : PV → Option R) : withV (some (.bool (decide p))) K = if p then K (.bool true) else K (.bool false) := by by_cases h : p <;> simp [h, withV]
@[go_sem] theorem withV_not (b : Bool) (K : PV → Option R) : withV (some (.bool (!b))) K = if b = true then K (.bool false) else K (.bool true) := by cases b <;> rfl
@[go_sem] theorem withV_lbeq (a b : List UInt8) (K : PV → Option R) : withV (some (.bool (a == b))) K = if a = b then K (.bool true) else K (.bool false) := by
  by_cases h : a = b
  · subst h; simp [withV]
  · have h2 : (a == b) = false := by simpa using h
    rw [h2, if_neg h]
    rfl
@[go_sem 1100] theorem withV_ndec (p : Prop) [Decidable p] (K : PV → Option R) : withV (some (.bool (!decide p))) K = if p then K (.bool false) else K (.bool true) := by by_cases h : p <;> simp [h, withV]
@[go_sem 1100] theorem withV_nbeq (a b : Bool) (K : PV → Option R) : withV (some (.bool (!(a == b)))) K = if a = b then K (.bool false) else K (.bool true) := by cases a <;> cases b <;> rfl
@[go_sem 1100] theorem withV_nlbeq (a b : List UInt8) (K : PV → Option R) : withV (some (.bool (!(a == b)))) K = if a = b then K (.bool false) else K (.bool true) := by
  by_cases h : a = b
  · subst h; simp [withV]
  · have h2 : (a == b) = false := by simpa using h
    rw [h2, if_neg h]
    rfl
@[go_sem] theorem withV_less (a b : List UInt8) (K : PV → Option R) : withV (some (.bool (Op.bytesLess a b))) K = if Op.bytesLess a b = true then K (.bool true) else K (.bool false) := withV_bool _ _
@[go_sem] theorem withV_int (k : IntKind) (n : Int) (K : PV → Option R) : withV (some (.int k n)) K = K (.int k n) := nr rfl
@[go_sem] theorem withV_str (s : ByteArray) (K : PV → Option R) : withV (some (.str s)) K = K (.str s) := nr rfl
@[go_sem] theorem withV_sl (r : List (List PV)) (ex : Bool) (K : PV → Option R) : withV (some (.sl r ex)) K = K (.sl r ex) := nr rfl
@[go_sem] theorem withV_cp (r : List PV) (K : PV → Option R) : withV (some (.cp r)) K = K (.cp r) := nr rfl
@[go_sem] theorem withV_agg (r : List PV) (K : PV → Option R) : withV (some (.agg r)) K = K (.agg r) := nr rfl
@[go_sem] theorem withV_tup (r : List PV) (K : PV → Option R) : withV (some (.tup r)) K = K (.tup r) := nr rfl
@[go_sem] theorem withV_msl (i o l : Nat) (ex : Bool) (K : PV → Option R) : withV (some (.msl i o l ex)) K = K (.msl i o l ex) := nr rfl
@[go_sem] theorem withV_mp (i o l : Nat) (K : PV → Option R) : withV (some (.mp i o l)) K = K (.mp i o l) := nr rfl
@[go_sem] theorem withV_skip (K : PV → Option R) : withV (some .skip) K = K .skip := nr rfl
@[go_sem] theorem withV_none (K : PV → Option R) : withV none K = none := nr rfl
@[go_sem] theorem withV_ite (c : Prop) [Decidable c] (x y : Option PV) (K : PV → Option R) : withV (if c then x else y) K = if c then withV x K else withV y K := by split <;> rfl
@[go_sem] theorem gval_tt (x : Option PV) : gval (.bool true) true x = x := nr rfl
@[go_sem] theorem gval_tf (x : Option PV) : gval (.bool true) false x = some .skip := nr rfl
@[go_sem] theorem gval_ft (x : Option PV) : gval (.bool false) true x = some .skip := nr rfl
@[go_sem] theorem gval_ff (x : Option PV) : gval (.bool false) false x = x := nr rfl
@[go_sem] theorem gval_skip (w : Bool) (x : Option PV) : gval .skip w x = some .skip := nr rfl
@[go_sem] theorem gout_tt (x : Option Out) : gout (.bool true) true x = x := nr rfl
@[go_sem] theorem gout_tf (x : Option Out) : gout (.bool true) false x = some { v := .skip } := nr rfl
@[go_sem] theorem gout_ft (x : Option Out) : gout (.bool false) true x = some { v := .skip } := nr rfl
@[go_sem] theorem gout_ff (x : Option Out) : gout (.bool false) false x = x := nr rfl
@[congr] theorem gval_congr {g g' : PV} {w w' : Bool} {x : Option PV} (h : g = g') (hw : w = w') : gval g w x = gval g' w' x := by rw [h, hw]
@[congr] theorem gout_congr {g g' : PV} {w w' : Bool} {x : Option Out} (h : g = g') (hw : w = w') : gout g w x = gout g' w' x := by rw [h, hw]
@[congr] theorem geff_congr {g g' : PV} {w w' : Bool} {S : Store} {x : Option Eff} (h : g = g') (hw : w = w') : geff g w S x = geff g' w' S x := by rw [h, hw]
@[go_sem] theorem pickO_true (x y : PV) : pickO (.bool true) x y = some x := nr rfl
@[go_sem] theorem pickO_false (x y : PV) : pickO (.bool false) x y = some y := nr rfl
@[go_sem] theorem condC_true (x y : Option R) : condC (.bool true) x y = x := nr rfl
@[go_sem] theorem condC_false (x y : Option R) : condC (.bool false) x y = y := nr rfl
@[go_sem 1100] theorem withN_bool (b : Bool) (S : Store) (K : PV → Store → Option R) : withN (some { v := .bool b, new := none, fz := [] }) S K = if b = true then K (.bool true) S else K (.bool false) S := by cases b <;> rfl
@[go_sem] theorem withN_new (v : PV) (rows : List (List PV)) (g : Option (Option Nat)) (S : Store) (K : PV → Store → Option R) : withN (some { v, new := some (rows, g), fz := [] }) S K = K v (S ++ [.arr rows g false]) := nr rfl
@[go_sem] theorem withN_fz (v : PV) (l : List Nat) (S : Store) (K : PV → Store → Option R) : withN (some { v, new := none, fz := l }) S K = K v (freezeAll S l) := nr rfl
@[go_sem] theorem withE_some (v : PV) (S : Store) (l : List Nat) (e : Env) (K : PV → Env → Store → Option R) : withE (some { v, S, kill := l }) e K = K v (killE l e) S := nr rfl
@[go_sem] theorem withS_some (v : PV) (S : Store) (l : List Nat) (K : PV → Store → Option R) : withS (some { v, S, kill := l }) K = K v S := nr rfl
@[go_sem 1100] theorem withS_bool (b : Bool) (S : Store) (l : List Nat) (K : PV → Store → Option R) : withS (some { v := .bool b, S, kill := l }) K = if b = true then K (.bool true) S else K (.bool false) S := by cases b <;> rfl
@[go_sem] theorem withO_nil (S : Store) (K : PV → Store → Option R) : withO S (.sl [] true) K = K (.msl S.length 0 0 false) (S ++ [.arr [] (some none) false]) := nr rfl
@[go_sem] theorem withF_eq (S : Store) (x : PV) (K : PV → Store → Option R) : withF S x K = (fzPV S x).bind fun v => K v (freezeAll S (reach S 8 x.refs)) := nr rfl
@[go_sem] theorem freezeAll_nil (S : Store) : freezeAll S [] = S := nr rfl
@[go_sem] theorem gc_nil (n : Nat) (e : Env) : gc n e [] = [] := by unfold gc; split <;> simp
/-! The same, ahead of a look at what goes on behind. -/
@[go_sem ↓] theorem pre_withV_true (K : PV → Option R) : withV (some (.bool true)) K = K (.bool true) := by exact withV_true ..
@[go_sem ↓] theorem pre_withV_false (K : PV → Option R) : withV (some (.bool false)) K = K (.bool false) := by exact withV_false ..
@[go_sem ↓] theorem pre_withV_int (k : IntKind) (n : Int) (K : PV → Option R) : withV (some (.int k n)) K = K (.int k n) := by exact withV_int ..
@[go_sem ↓] theorem pre_withV_str (s : ByteArray) (K : PV → Option R) : withV (some (.str s)) K = K (.str s) := by exact withV_str ..
@[go_sem ↓] theorem pre_withV_sl (r : List (List PV)) (ex : Bool) (K : PV → Option R) : withV (some (.sl r ex)) K = K (.sl r ex) := by exact withV_sl ..
@[go_sem ↓] theorem pre_withV_cp (r : List PV) (K : PV → Option R) : withV (some (.cp r)) K = K (.cp r) := by exact withV_cp ..
@[go_sem ↓] theorem pre_withV_tup (r : List PV) (K : PV → Option R) : withV (some (.tup r)) K = K (.tup r) := by exact withV_tup ..
@[go_sem ↓] theorem pre_withV_msl (i o l : Nat) (ex : Bool) (K : PV → Option R) : withV (some (.msl i o l ex)) K = K (.msl i o l ex) := by exact withV_msl ..
@[go_sem ↓] theorem pre_withV_mp (i o l : Nat) (K : PV → Option R) : withV (some (.mp i o l)) K = K (.mp i o l) := by exact withV_mp ..
@[go_sem ↓] theorem pre_withV_none (K : PV → Option R) : withV none K = none := by exact withV_none ..
@[go_sem ↓] theorem pre_condC_true (x y : Option R) : condC (.bool true) x y = x := by exact condC_true ..
@[go_sem ↓] theorem pre_condC_false (x y : Option R) : condC (.bool false) x y = y := by exact condC_false ..
@[go_sem ↓] theorem pre_gval_tt (x : Option PV) : gval (.bool true) true x = x := by exact gval_tt ..
@[go_sem ↓] theorem pre_gval_tf (x : Option PV) : gval (.bool true) false x = some .skip := by exact gval_tf ..
@[go_sem ↓] theorem pre_gval_ft (x : Option PV) : gval (.bool false) true x = some .skip := by exact gval_ft ..
@[go_sem ↓] theorem pre_gval_ff (x : Option PV) : gval (.bool false) false x = x := by exact gval_ff ..
@[go_sem ↓] theorem pre_gval_skip (w : Bool) (x : Option PV) : gval .skip w x = some .skip := by exact gval_skip ..
@[go_sem ↓] theorem pre_gout_tt (x : Option Out) : gout (.bool true) true x = x := by exact gout_tt ..
@[go_sem ↓] theorem pre_gout_tf (x : Option Out) : gout (.bool true) false x = some { v := .skip } := by exact gout_tf ..
@[go_sem ↓] theorem pre_gout_ft (x : Option Out) : gout (.bool false) true x = some { v := .skip } := by exact gout_ft ..
@[go_sem ↓] theorem pre_gout_ff (x : Option Out) : gout (.bool false) false x = x := by exact gout_ff ..
end

/-! ### Slots -/
@[go_sem] theorem get_cons (k t : Nat) (v : PV) (r : Env) : get ((k, v) :: r) t = if k = t then v else get r t := nr rfl
@[go_sem] theorem put_nil (t : Nat) (v : PV) : put [] t v = [(t, v)] := nr rfl
@[go_sem] theorem put_cons (k t : Nat) (u v : PV) (r : Env) : put ((k, u) :: r) t v = if k = t then (t, v) :: r else (k, u) :: put r t v := nr rfl

/-! ### Values -/
@[go_sem] theorem evBin_add (ti : TI) (k : IntKind) (a b : Int) : evBin .add ti (.int k a) (.int k b) = some (.int k (k.wrap (a + b))) := by simp [evBin, intOp]
@[go_sem] theorem evBin_sub (ti : TI) (k : IntKind) (a b : Int) : evBin .sub ti (.int k a) (.int k b) = some (.int k (k.wrap (a - b))) := by simp [evBin, intOp]
@[go_sem] theorem evBin_mul (ti : TI) (k : IntKind) (a b : Int) : evBin .mul ti (.int k a) (.int k b) = some (.int k (k.wrap (a * b))) := by simp [evBin, intOp]
@[go_sem] theorem evBin_eql (ti : TI) (k : IntKind) (a b : Int) : evBin .eql ti (.int k a) (.int k b) = some (.bool (decide (a = b))) := by simp [evBin, intOp]
@[go_sem] theorem evBin_neq (ti : TI) (k : IntKind) (a b : Int) : evBin .neq ti (.int k a) (.int k b) = some (.bool (!decide (a = b))) := by simp [evBin, intOp]
@[go_sem] theorem evBin_lss (ti : TI) (k : IntKind) (a b : Int) : evBin .lss ti (.int k a) (.int k b) = some (.bool (decide (a < b))) := by simp [evBin, intOp]
@[go_sem] theorem evBin_leq (ti : TI) (k : IntKind) (a b : Int) : evBin .leq ti (.int k a) (.int k b) = some (.bool (decide (a ≤ b))) := by simp [evBin, intOp]
@[go_sem] theorem evBin_gtr (ti : TI) (k : IntKind) (a b : Int) : evBin .gtr ti (.int k a) (.int k b) = some (.bool (decide (b < a))) := by simp [evBin, intOp]
@[go_sem] theorem evBin_geq (ti : TI) (k : IntKind) (a b : Int) : evBin .geq ti (.int k a) (.int k b) = some (.bool (decide (b ≤ a))) := by simp [evBin, intOp]
@[go_sem] theorem evBin_and (ti : TI) (k : IntKind) (a b : Int) : evBin .and ti (.int k a) (.int k b) = some (.int k (k.wrap (BitVec.ofInt k.bits a &&& BitVec.ofInt k.bits b).toNat)) := by simp [evBin, intOp]
@[go_sem] theorem evBin_or (ti : TI) (k : IntKind) (a b : Int) : evBin .or ti (.int k a) (.int k b) = some (.int k (k.wrap (BitVec.ofInt k.bits a ||| BitVec.ofInt k.bits b).toNat)) := by simp [evBin, intOp]
@[go_sem] theorem evBin_xor (ti : TI) (k : IntKind) (a b : Int) : evBin .xor ti (.int k a) (.int k b) = some (.int k (k.wrap (BitVec.ofInt k.bits a ^^^ BitVec.ofInt k.bits b).toNat)) := by simp [evBin, intOp]
@[go_sem] theorem evBin_quo (ti : TI) (k : IntKind) (a b : Int) : evBin .quo ti (.int k a) (.int k b) = if b = 0 then none else some (.int k (k.wrap (a.tdiv b))) := by simp [evBin, intOp]
@[go_sem] theorem evBin_rem (ti : TI) (k : IntKind) (a b : Int) : evBin .rem ti (.int k a) (.int k b) = if b = 0 then none else some (.int k (a.tmod b)) := by simp [evBin, intOp]
@[go_sem] theorem evBin_shl (ti : TI) (k k' : IntKind) (a b : Int) : evBin .shl ti (.int k a) (.int k' b) = if b < 0 then none else some (.int k (k.wrap (a * 2 ^ min b.toNat k.bits))) := by simp [evBin, shiftOp]
@[go_sem] theorem evBin_shr (ti : TI) (k k' : IntKind) (a b : Int) : evBin .shr ti (.int k a) (.int k' b) = if b < 0 then none else some (.int k (a.fdiv (2 ^ min b.toNat k.bits))) := by simp [evBin, shiftOp]
@[go_sem] theorem evBin_streql (ti : TI) (a b : ByteArray) : evBin .eql ti (.str a) (.str b) = some (.bool (a.toList == b.toList)) := nr rfl
@[go_sem] theorem evBin_strneq (ti : TI) (a b : ByteArray) : evBin .neq ti (.str a) (.str b) = some (.bool (!(a.toList == b.toList))) := nr rfl
@[go_sem] theorem evBin_strlss (ti : TI) (a b : ByteArray) : evBin .lss ti (.str a) (.str b) = some (.bool (Op.bytesLess a.toList b.toList)) := nr rfl
@[go_sem] theorem tyi4 : (tyi Try.prog 4).d = .bool := nr (by kernel_rfl)
@[go_sem] theorem evBin_booleql (a b : Bool) : evBin .eql (tyi Try.prog 4) (.bool a) (.bool b) = some (.bool (a == b)) := by simp [evBin, tyi4]
@[go_sem] theorem evBin_boolneq (a b : Bool) : evBin .neq (tyi Try.prog 4) (.bool a) (.bool b) = some (.bool (!(a == b))) := by simp [evBin, tyi4]
@[go_sem] theorem evUn_not (b : Bool) : evUn .not (.bool b) = some (.bool (!b)) := nr rfl
theorem lenO_str (ti : TI) (h : ti.d = .str) (s : ByteArray) : lenO ti (.str s) = some (.int .i64 s.size) := by simp [lenO, evLen, h]
theorem lenO_sl (ti : TI) {e : TypeId} (h : ti.d = .slice e) (r : List (List PV)) (ex : Bool) : lenO ti (.sl r ex) = some (.int .i64 r.length) := by simp [lenO, evLen, h]
theorem lenO_msl (ti : TI) {e : TypeId} (h : ti.d = .slice e) (i o l : Nat) (ex : Bool) : lenO ti (.msl i o l ex) = some (.int .i64 l) := by simp [lenO, evLen, h]
@[go_sem] theorem tyi9 : (tyi Try.prog 9).d = .str := nr (by kernel_rfl)
@[go_sem] theorem len9 (s : ByteArray) : lenO (tyi Try.prog 9) (.str s) = some (.int .i64 s.size) := lenO_str _ tyi9 s
/-- A byte of a string. -/
def byteAt (s : ByteArray) (i : Nat) : Int := ((s.data.toList.getD i 0).toNat : Int)
@[go_sem] theorem index9 (s : ByteArray) (n : Int) : indexO Try.prog 9 (.str s) (.int .i64 n) = if 0 ≤ n ∧ n < s.size then some (.int .u8 (byteAt s n.toNat)) else none := by
  simp [indexO, tyi9, evIndex, byteAt]
attribute [go_sem] Int.toNat_natCast
@[go_sem] theorem extractO_zero (v : PV) (r : List PV) : extractO (.tup (v :: r)) 0 = some v := nr rfl
@[go_sem] theorem extractO_succ (v : PV) (r : List PV) (i : Nat) : extractO (.tup (v :: r)) (i + 1) = extractO (.tup r) i := nr rfl

/-! ### Values without arrays, and calls with them -/
/-- Mentions no array, and is what it freezes to. -/
def Plain (v : PV) : Prop := v.refs = [] ∧ ∀ S, fzPV S v = some v
theorem Plain.int (k : IntKind) (n : Int) : Plain (.int k n) := ⟨rfl, fun _ => rfl⟩
theorem Plain.bool (b : Bool) : Plain (.bool b) := ⟨rfl, fun _ => rfl⟩
theorem Plain.str (s : ByteArray) : Plain (.str s) := ⟨rfl, fun _ => rfl⟩
theorem Plain.sl (r : List (List PV)) : Plain (.sl r false) := ⟨rfl, fun _ => by cases r <;> rfl⟩
theorem Plain.nil : Plain (.sl [] true) := ⟨rfl, fun _ => rfl⟩
@[go_sem] theorem fzPV_sl (S : Store) (r : List (List PV)) : fzPV S (.sl r false) = some (.sl r false) := nr (by cases r <;> rfl)
@[go_sem] theorem fzPV_nil (S : Store) : fzPV S (.sl [] true) = some (.sl [] true) := nr rfl
@[go_sem] theorem fzCell_int (S : Store) (d : Nat) (k : IntKind) (n : Int) : fzCell S (d + 1) (.int k n) = some (.int k n) := nr rfl
@[go_sem] theorem fzCell_bool (S : Store) (d : Nat) (b : Bool) : fzCell S (d + 1) (.bool b) = some (.bool b) := nr rfl
@[go_sem] theorem fzCell_str (S : Store) (d : Nat) (s : ByteArray) : fzCell S (d + 1) (.str s) = some (.str s) := nr rfl
@[go_sem] theorem fzCell_sl (S : Store) (d : Nat) (r : List (List PV)) (ex : Bool) : fzCell S (d + 1) (.sl r ex) = some (.sl r false) := nr rfl
@[go_sem] theorem mapO_nil {α β : Type} (f : α → Option β) : mapO f [] = some [] := nr rfl
@[go_sem] theorem mapO_cons {α β : Type} (f : α → Option β) (a : α) (r : List α) : mapO f (a :: r) = (f a).bind fun b => (mapO f r).map fun l => b :: l := nr rfl
theorem reach_nil (S : Store) : ∀ d, reach S d [] = []
  | 0 => rfl
  | d + 1 => by simp [reach, reach_nil S d]
theorem mapO_plain {S : Store} : ∀ {l : List PV}, (∀ a ∈ l, Plain a) → mapO (fzPV S) l = some l
  | [], _ => rfl
  | a :: r, h => by simp [mapO, (h a (by simp)).2 S, mapO_plain (S := S) (l := r) fun x hx => h x (by simp [hx])]
theorem refs_plain : ∀ {l : List PV}, (∀ a ∈ l, Plain a) → l.flatMap PV.refs = []
  | [], _ => rfl
  | a :: r, h => by simp [List.flatMap_cons, (h a (by simp)).1, refs_plain (l := r) fun x hx => h x (by simp [hx])]
/-- A call with plain arguments. -/
theorem callO_plain {S : Store} {f : FuncId} {l : List PV} {v : PV} (h : callL Try.prog hints f l = some v) (ha : ∀ a ∈ l, Plain a) : callO (callL Try.prog hints) S f l = some { v } := by
  simp [callO, refs_plain ha, reach_nil, mapO_plain ha, h]
@[go_sem] theorem some_bind {α β : Type} (a : α) (f : α → Option β) : (some a).bind f = f a := nr rfl
@[go_sem] theorem some_map {α β : Type} (a : α) (f : α → β) : (some a).map f = some (f a) := nr rfl
end Go.Vs
end
/- A law's arguments, by their types. -/
section
set_option linter.unusedVariables false
namespace Go.Vs
open Go Go.Proofs
theorem und3 : Try.prog.underlying 3 = some (.int .i64) := by kernel_rfl
theorem und4 : Try.prog.underlying 4 = some .bool := by kernel_rfl
theorem und9 : Try.prog.underlying 9 = some .string := by kernel_rfl
section
variable {P : Program} {k : Nat} {t : TypeId} {pv : PV} {pvs : List PV}
theorem Arg.str (hu : P.underlying t = some .string) (h : Arg P k t pv) : ∃ s : ByteArray, s.size ≤ maxLen ∧ pv = .str s := by
  simp only [Arg, hu] at h
  cases k with
  | zero => simp only [Dt] at h
  | succ k =>
    simp only [Dt, hu] at h
    obtain ⟨s, h1, h2⟩ := h
    exact ⟨s, h1, by simpa using h2⟩
theorem Arg.int {kd : IntKind} (hu : P.underlying t = some (.int kd)) (h : Arg P k t pv) : ∃ n, (Lit.int kd n).wf = true ∧ pv = .int kd n := by
  simp only [Arg, hu] at h
  cases k with
  | zero => simp only [Dt] at h
  | succ k =>
    simp only [Dt, hu] at h
    obtain ⟨s, h1, h2⟩ := h
    exact ⟨s, h1, by simpa using h2⟩
theorem Args.nil_inv (h : Args P [] pvs) : pvs = [] := by cases h; rfl
theorem Args.cons_inv {ts : List TypeId} (h : Args P (t :: ts) pvs) : ∃ pv r k, pvs = pv :: r ∧ Arg P k t pv ∧ Args P ts r := by
  cases h with
  | cons h r =>
    obtain ⟨k, h⟩ := h
    exact ⟨_, _, k, rfl, h, r⟩
end
end Go.Vs
end
/- Trees as data, and what operations do with them. -/
section
set_option linter.unusedVariables false
set_option linter.unusedSimpArgs false
namespace Go.Vs
open Go Go.Proofs

/-! ### Types -/
@[go_sem] theorem d54 : (tyi Try.prog 54).d = .struct [(0, 1, false), (1, 1, false), (2, 3, true), (5, 1, false)] := nr (by kernel_rfl)
@[go_sem] theorem d51 : (tyi Try.prog 51).d = .struct [(0, 1, false), (1, 1, false), (2, 1, false)] := nr (by kernel_rfl)
@[go_sem] theorem d52 : (tyi Try.prog 52).d = .slice 54 := nr (by kernel_rfl)
@[go_sem] theorem d49 : (tyi Try.prog 49).d = .slice 76 := nr (by kernel_rfl)
@[go_sem] theorem d22 : (tyi Try.prog 22).d = .slice 3 := nr (by kernel_rfl)
@[go_sem] theorem d3 : (tyi Try.prog 3).d = .int .i64 := nr (by kernel_rfl)
@[go_sem] theorem d76 : (tyi Try.prog 76).d = .int .u32 := nr (by kernel_rfl)
@[go_sem] theorem size54 : (tyi Try.prog 54).size = 6 := nr (by kernel_rfl)
@[go_sem] theorem size51 : (tyi Try.prog 51).size = 3 := nr (by kernel_rfl)
@[go_sem] theorem size52 : (tyi Try.prog 52).size = 1 := nr (by kernel_rfl)
@[go_sem] theorem size49 : (tyi Try.prog 49).size = 1 := nr (by kernel_rfl)
@[go_sem] theorem size3 : (tyi Try.prog 3).size = 1 := nr (by kernel_rfl)
@[go_sem] theorem size4 : (tyi Try.prog 4).size = 1 := nr (by kernel_rfl)
@[go_sem] theorem size76 : (tyi Try.prog 76).size = 1 := nr (by kernel_rfl)
@[go_sem] theorem known54 : (tyi Try.prog 54).known = true := nr (by kernel_rfl)
@[go_sem] theorem known51 : (tyi Try.prog 51).known = true := nr (by kernel_rfl)
@[go_sem] theorem known52 : (tyi Try.prog 52).known = true := nr (by kernel_rfl)
@[go_sem] theorem known49 : (tyi Try.prog 49).known = true := nr (by kernel_rfl)
@[go_sem] theorem known22 : (tyi Try.prog 22).known = true := nr (by kernel_rfl)
@[go_sem] theorem known3 : (tyi Try.prog 3).known = true := nr (by kernel_rfl)
@[go_sem] theorem known4 : (tyi Try.prog 4).known = true := nr (by kernel_rfl)
@[go_sem] theorem known9 : (tyi Try.prog 9).known = true := nr (by kernel_rfl)
@[go_sem] theorem known76 : (tyi Try.prog 76).known = true := nr (by kernel_rfl)
@[go_sem] theorem zero54 : (tyi Try.prog 54).zero = some [.int .i64 0, .str ByteArray.empty, .bool false, .sl [] true, .sl [] true, .sl [] true] := nr (by kernel_rfl)
@[go_sem] theorem zero51 : (tyi Try.prog 51).zero = some [.bool false, .sl [] true, .sl [] true] := nr (by kernel_rfl)
@[go_sem] theorem part3 (v : PV) (r : List PV) : part (tyi Try.prog 3) (v :: r) = some v := by simp [part, known3, TI.isAgg, d3]
@[go_sem] theorem part4 (v : PV) (r : List PV) : part (tyi Try.prog 4) (v :: r) = some v := by simp [part, known4, TI.isAgg, tyi4]
@[go_sem] theorem part9 (v : PV) (r : List PV) : part (tyi Try.prog 9) (v :: r) = some v := by simp [part, known9, TI.isAgg, tyi9]
@[go_sem] theorem part76 (v : PV) (r : List PV) : part (tyi Try.prog 76) (v :: r) = some v := by simp [part, known76, TI.isAgg, d76]
@[go_sem] theorem part49 (v : PV) (r : List PV) : part (tyi Try.prog 49) (v :: r) = some v := by simp [part, known49, TI.isAgg, d49]
@[go_sem] theorem part52 (v : PV) (r : List PV) : part (tyi Try.prog 52) (v :: r) = some v := by simp [part, known52, TI.isAgg, d52]
@[go_sem] theorem part22 (v : PV) (r : List PV) : part (tyi Try.prog 22) (v :: r) = some v := by simp [part, known22, TI.isAgg, d22]
@[go_sem] theorem part51 (a b c : PV) (r : List PV) : part (tyi Try.prog 51) (a :: b :: c :: r) = some (.agg [a, b, c]) := by simp [part, known51, TI.isAgg, d51, size51]
@[go_sem] theorem part54 (a b c d e f : PV) (r : List PV) : part (tyi Try.prog 54) (a :: b :: c :: d :: e :: f :: r) = some (.agg [a, b, c, d, e, f]) := by simp [part, known54, TI.isAgg, d54, size54]

/-! ### Memory -/
@[go_sem] theorem evLoad_cp (ti : TI) (S : Store) (r : List PV) : evLoad ti S (.cp r) = part ti r := nr rfl
@[go_sem] theorem evLoad_mp (ti : TI) (S : Store) (id i off : Nat) : evLoad ti S (.mp id i off) = (rowsAt S id).bind fun rows => if i < rows.length then part ti ((rows.getD i []).drop off) else none := nr rfl
@[go_sem] theorem rowsAt_zero (rows : List (List PV)) (g : Option (Option Nat)) (f : Bool) (S : Store) : rowsAt (.arr rows g f :: S) 0 = some rows := nr rfl
@[go_sem] theorem rowsAt_succ (o : Obj) (S : Store) (n : Nat) : rowsAt (o :: S) (n + 1) = rowsAt S n := nr rfl
attribute [go_sem] List.nil_append List.cons_append List.length_cons List.length_nil List.getD_cons_zero List.drop_zero List.drop_succ_cons Nat.zero_add Nat.add_zero Nat.lt_add_one
@[go_sem] theorem fa54_0 (id i off : Nat) : evFieldAddr (tyi Try.prog 54) 0 (.mp id i off) = some (.mp id i off) := by simp [evFieldAddr, d54]
@[go_sem] theorem fa54_1 (id i off : Nat) : evFieldAddr (tyi Try.prog 54) 1 (.mp id i off) = some (.mp id i (off + 1)) := by simp [evFieldAddr, d54]
@[go_sem] theorem fa54_2 (id i off : Nat) : evFieldAddr (tyi Try.prog 54) 2 (.mp id i off) = some (.mp id i (off + 2)) := by simp [evFieldAddr, d54]
@[go_sem] theorem fa54_3 (id i off : Nat) : evFieldAddr (tyi Try.prog 54) 3 (.mp id i off) = some (.mp id i (off + 5)) := by simp [evFieldAddr, d54]
@[go_sem] theorem fc54_0 (r : List PV) : evFieldAddr (tyi Try.prog 54) 0 (.cp r) = some (.cp r) := by simp [evFieldAddr, d54]
@[go_sem] theorem fc54_1 (r : List PV) : evFieldAddr (tyi Try.prog 54) 1 (.cp r) = some (.cp (r.drop 1)) := by simp [evFieldAddr, d54]
@[go_sem] theorem fc54_2 (r : List PV) : evFieldAddr (tyi Try.prog 54) 2 (.cp r) = some (.cp (r.drop 2)) := by simp [evFieldAddr, d54]
@[go_sem] theorem fc54_3 (r : List PV) : evFieldAddr (tyi Try.prog 54) 3 (.cp r) = some (.cp (r.drop 5)) := by simp [evFieldAddr, d54]
@[go_sem] theorem fa51_0 (id i off : Nat) : evFieldAddr (tyi Try.prog 51) 0 (.mp id i off) = some (.mp id i off) := by simp [evFieldAddr, d51]
@[go_sem] theorem fa51_1 (id i off : Nat) : evFieldAddr (tyi Try.prog 51) 1 (.mp id i off) = some (.mp id i (off + 1)) := by simp [evFieldAddr, d51]
@[go_sem] theorem fa51_2 (id i off : Nat) : evFieldAddr (tyi Try.prog 51) 2 (.mp id i off) = some (.mp id i (off + 2)) := by simp [evFieldAddr, d51]
@[go_sem] theorem fc51_0 (r : List PV) : evFieldAddr (tyi Try.prog 51) 0 (.cp r) = some (.cp r) := by simp [evFieldAddr, d51]
@[go_sem] theorem fc51_1 (r : List PV) : evFieldAddr (tyi Try.prog 51) 1 (.cp r) = some (.cp (r.drop 1)) := by simp [evFieldAddr, d51]
@[go_sem] theorem fc51_2 (r : List PV) : evFieldAddr (tyi Try.prog 51) 2 (.cp r) = some (.cp (r.drop 2)) := by simp [evFieldAddr, d51]
@[go_sem] theorem len52 (r : List (List PV)) (ex : Bool) : lenO (tyi Try.prog 52) (.sl r ex) = some (.int .i64 r.length) := lenO_sl _ d52 r ex
@[go_sem] theorem len49 (r : List (List PV)) (ex : Bool) : lenO (tyi Try.prog 49) (.sl r ex) = some (.int .i64 r.length) := lenO_sl _ d49 r ex
@[go_sem] theorem len22 (r : List (List PV)) (ex : Bool) : lenO (tyi Try.prog 22) (.sl r ex) = some (.int .i64 r.length) := lenO_sl _ d22 r ex
/-! ### Trees -/
inductive Node where
  | mk (op : Int) (name : ByteArray) (neg : Bool) (num den : List Int) (kids : List Node)
namespace Node
def op : Node → Int | mk a _ _ _ _ _ => a
def name : Node → ByteArray | mk _ a _ _ _ _ => a
def neg : Node → Bool | mk _ _ a _ _ _ => a
def num : Node → List Int | mk _ _ _ a _ _ => a
def den : Node → List Int | mk _ _ _ _ a _ => a
def kids : Node → List Node | mk _ _ _ _ _ a => a
instance : Inhabited Node := ⟨mk 0 ByteArray.empty false [] [] []⟩
end Node
/-- Words, as rows of memory. -/
def wordRows (l : List Int) : List (List PV) := l.map fun w => [.int .u32 w]
mutual
def Node.cells : Node → List PV
  | .mk a b c d e f => [.int .i64 a, .str b, .bool c, .sl (wordRows d) false, .sl (wordRows e) false, .sl (Node.rows f) false]
def Node.rows : List Node → List (List PV)
  | [] => []
  | n :: r => n.cells :: Node.rows r
end
mutual
/-- What a tree in memory is, besides: numbers in their bounds, lists in theirs. -/
def Node.ok : Node → Prop
  | .mk a b c d e f => (-9223372036854775808 ≤ a ∧ a ≤ 9223372036854775807) ∧ b.size ≤ maxLen ∧ d.length ≤ maxLen ∧ e.length ≤ maxLen ∧ (∀ w ∈ d, 0 ≤ w ∧ w ≤ 4294967295) ∧ (∀ w ∈ e, 0 ≤ w ∧ w ≤ 4294967295) ∧ f.length ≤ maxLen ∧ Node.oks f
def Node.oks : List Node → Prop
  | [] => True
  | n :: r => n.ok ∧ Node.oks r
end
theorem Node.oks_iff : ∀ {l : List Node}, Node.oks l ↔ ∀ n ∈ l, n.ok
  | [] => by simp [Node.oks]
  | n :: r => by simp [Node.oks, Node.oks_iff (l := r)]
theorem Node.ind' {P : Node → Prop} (h : ∀ n, (∀ k ∈ n.kids, P k) → P n) (n : Node) : P n :=
  Node.rec (motive_1 := P) (motive_2 := fun l => ∀ k ∈ l, P k) (fun a b c d e f ih => h (.mk a b c d e f) ih) (by simp)
    (fun n r hn hr k hk => by
      rcases List.mem_cons.1 hk with rfl | hk
      · exact hn
      · exact hr k hk) n
theorem Node.rows_eq : ∀ l, Node.rows l = l.map Node.cells
  | [] => rfl
  | n :: r => by rw [Node.rows, Node.rows_eq r]; rfl
theorem Node.cells_eq (n : Node) : n.cells = [.int .i64 n.op, .str n.name, .bool n.neg, .sl (wordRows n.num) false, .sl (wordRows n.den) false, .sl (Node.rows n.kids) false] := by cases n; rfl
@[go_sem] theorem Node.cells_length (n : Node) : n.cells.length = 6 := nr (by cases n; rfl)
@[go_sem] theorem Node.cells_cell (n : Node) : n.cells.all PV.cell = true := nr (by cases n; rfl)
@[go_sem] theorem Node.drop1 (n : Node) : n.cells.drop 1 = [.str n.name, .bool n.neg, .sl (wordRows n.num) false, .sl (wordRows n.den) false, .sl (Node.rows n.kids) false] := nr (by cases n; rfl)
@[go_sem] theorem Node.drop2 (n : Node) : n.cells.drop 2 = [.bool n.neg, .sl (wordRows n.num) false, .sl (wordRows n.den) false, .sl (Node.rows n.kids) false] := nr (by cases n; rfl)
@[go_sem] theorem Node.drop3 (n : Node) : n.cells.drop 3 = [.sl (wordRows n.num) false, .sl (wordRows n.den) false, .sl (Node.rows n.kids) false] := nr (by cases n; rfl)
@[go_sem] theorem Node.drop4 (n : Node) : n.cells.drop 4 = [.sl (wordRows n.den) false, .sl (Node.rows n.kids) false] := nr (by cases n; rfl)
@[go_sem] theorem Node.drop5 (n : Node) : n.cells.drop 5 = [.sl (Node.rows n.kids) false] := nr (by cases n; rfl)
@[go_sem] theorem Node.part54 (n : Node) : part (tyi Try.prog 54) n.cells = some (.agg n.cells) := by cases n; simp only [Node.cells, Vs.part54]
@[go_sem] theorem Node.part3 (n : Node) : part (tyi Try.prog 3) n.cells = some (.int .i64 n.op) := by cases n; simp only [Node.cells, Vs.part3]; rfl
theorem Node.plain (n : Node) : Plain (.agg n.cells) := by cases n; exact ⟨rfl, fun _ => rfl⟩
@[go_sem] theorem Node.fz (S : Store) (n : Node) : fzPV S (.agg n.cells) = some (.agg n.cells) := n.plain.2 S
@[go_sem] theorem Node.refs (n : Node) : refsL n.cells = [] := nr (by cases n; rfl)
@[go_sem] theorem Node.rows_length (l : List Node) : (Node.rows l).length = l.length := by rw [Node.rows_eq]; simp
@[go_sem] theorem wordRows_length (l : List Int) : (wordRows l).length = l.length := by simp [wordRows]
@[go_sem] theorem idx52 (S : Store) (l : List Node) (ex : Bool) (i : Int) : indexAddrO Try.prog 52 S (.sl (Node.rows l) ex) (.int .i64 i) = if 0 ≤ i ∧ i < l.length then some (.cp (l.getD i.toNat default).cells) else none := by
  have e1 : elemTy (tyi Try.prog 52) = 54 := by simp [elemTy, d52]
  have e2 : isSlice (tyi Try.prog 52) = true := by simp [isSlice, d52]
  simp only [indexAddrO, e1, e2, known54, size54, and_self, if_true, evIndexAddr, Node.rows_length]
  split
  · rename_i h
    have hl : i.toNat < l.length := by omega
    have e3 : (Node.rows l).getD i.toNat [] = (l.getD i.toNat default).cells := by
      rw [Node.rows_eq]
      simp [List.getD_eq_getElem?_getD, hl]
    rw [e3, if_pos (Node.cells_length _)]
  · rfl
@[go_sem] theorem idx49 (S : Store) (l : List Int) (ex : Bool) (i : Int) : indexAddrO Try.prog 49 S (.sl (wordRows l) ex) (.int .i64 i) = if 0 ≤ i ∧ i < l.length then some (.cp [.int .u32 (l.getD i.toNat 0)]) else none := by
  have e1 : elemTy (tyi Try.prog 49) = 76 := by simp [elemTy, d49]
  have e2 : isSlice (tyi Try.prog 49) = true := by simp [isSlice, d49]
  simp only [indexAddrO, e1, e2, known76, size76, and_self, if_true, evIndexAddr, wordRows_length]
  split
  · rename_i h
    have hl : i.toNat < l.length := by omega
    have e3 : (wordRows l).getD i.toNat [] = [.int .u32 (l.getD i.toNat 0)] := by
      simp [wordRows, List.getD_eq_getElem?_getD, hl]
    rw [e3]
    rfl
  · rfl
@[go_sem] theorem boxed_if (S : Store) (id k : Nat) (v : PV) : boxed S id k v = if v.cells.length = k ∧ v.cells.all PV.cell = true then some { v := .mp id 0 0, new := some ([v.cells], none) } else none := nr rfl
def zeroNode : List PV := [.int .i64 0, .str ByteArray.empty, .bool false, .sl [] true, .sl [] true, .sl [] true]
@[go_sem] theorem alloc54 (id : Nat) : allocO (tyi Try.prog 54) id = some { v := .mp id 0 0, new := some ([zeroNode], none) } := by
  simp [allocO, zero54, zeroNode, PV.cell]
theorem kids_drop {l : List Node} {i : Nat} (h : i < l.length) : l.drop i = l.getD i default :: l.drop (i + 1) := by
  rw [List.drop_eq_getElem_cons h]
  simp [List.getD_eq_getElem?_getD, h]
theorem kids_mem {l : List Node} {i : Nat} (h : i < l.length) : l.getD i default ∈ l := by
  simp [List.getD_eq_getElem?_getD, h]
end Go.Vs
end
/- Trees as arguments. -/
section
set_option linter.unusedVariables false
set_option linter.unusedSimpArgs false
namespace Go.Vs
open Go Go.Proofs
/-- The types of a struct's fields. -/
def fieldTypes (P : Program) (t : TypeId) : Option (List TypeId) := match P.underlying t with
  | some (.struct fs) => some (fs.toList.map Field.type)
  | _ => none
theorem all2_map {α β γ : Type} {R : γ → β → Prop} {f : α → γ} : ∀ {x : List α} {y : List β}, All2 (fun a b => R (f a) b) x y → All2 R (x.map f) y
  | _, _, .nil => .nil
  | _, _, .cons h t => .cons h (all2_map t)
theorem Dt.struct {P : Program} {k : Nat} {t : TypeId} {ts : List TypeId} {pvs : List PV} (hf : fieldTypes P t = some ts) (h : Dt P k t pvs) : ∃ k', k = k' + 1 ∧ ∃ pss : List (List PV), pvs = pss.flatten ∧ All2 (fun t ps => Dt P k' t ps) ts pss := by
  cases k with
  | zero => simp only [Dt] at h
  | succ k =>
    unfold fieldTypes at hf
    split at hf
    · rename_i fs hu
      simp only [Dt, hu] at h
      obtain ⟨pss, h1, h2⟩ := h
      simp only [Option.some.injEq] at hf
      subst hf
      exact ⟨k, rfl, pss, h1, all2_map (R := fun t ps => Dt P k t ps) h2⟩
    · cases hf
theorem Dt.slice {P : Program} {k : Nat} {t e : TypeId} {pvs : List PV} (hu : P.underlying t = some (.slice e)) (h : Dt P k t pvs) : ∃ k', k = k' + 1 ∧ ∃ rows, pvs = [.sl rows false] ∧ rows.length ≤ maxLen ∧ ∀ r ∈ rows, Dt P k' e r := by
  cases k with
  | zero => simp only [Dt] at h
  | succ k =>
    simp only [Dt, hu] at h
    exact ⟨k, rfl, h⟩
theorem Dt.int {P : Program} {k : Nat} {t : TypeId} {kd : IntKind} {pvs : List PV} (hu : P.underlying t = some (.int kd)) (h : Dt P k t pvs) : ∃ n, (Lit.int kd n).wf = true ∧ pvs = [.int kd n] := by
  cases k with
  | zero => simp only [Dt] at h
  | succ k => simpa only [Dt, hu] using h
theorem Dt.bool {P : Program} {k : Nat} {t : TypeId} {pvs : List PV} (hu : P.underlying t = some .bool) (h : Dt P k t pvs) : ∃ b, pvs = [.bool b] := by
  cases k with
  | zero => simp only [Dt] at h
  | succ k => simpa only [Dt, hu] using h
theorem Dt.str {P : Program} {k : Nat} {t : TypeId} {pvs : List PV} (hu : P.underlying t = some .string) (h : Dt P k t pvs) : ∃ s : ByteArray, s.size ≤ maxLen ∧ pvs = [.str s] := by
  cases k with
  | zero => simp only [Dt] at h
  | succ k => simpa only [Dt, hu] using h
theorem All2.inv {α β : Type} {R : α → β → Prop} {a : α} {x : List α} {y : List β} (h : All2 R (a :: x) y) : ∃ b z, y = b :: z ∧ R a b ∧ All2 R x z := by
  cases h with
  | cons h t => exact ⟨_, _, rfl, h, t⟩
theorem All2.inv0 {α β : Type} {R : α → β → Prop} {y : List β} (h : All2 R [] y) : y = [] := by cases h; rfl
theorem rows_choose {α : Type} {P : List PV → Prop} {Q : α → Prop} {f : α → List PV} (h : ∀ r, P r → ∃ a, Q a ∧ r = f a) : ∀ rows : List (List PV), (∀ r ∈ rows, P r) → ∃ l : List α, (∀ a ∈ l, Q a) ∧ rows = l.map f
  | [], _ => ⟨[], by simp, rfl⟩
  | r :: rows, hr => by
    obtain ⟨a, h1, h2⟩ := h r (hr r (by simp))
    obtain ⟨l, h3, h4⟩ := rows_choose h rows fun x hx => hr x (by simp [hx])
    exact ⟨a :: l, by simpa using ⟨h1, h3⟩, by simp [h2, h4]⟩
theorem und76 : Try.prog.underlying 76 = some (.int .u32) := by kernel_rfl
theorem und49 : Try.prog.underlying 49 = some (.slice 76) := by kernel_rfl
theorem und52 : Try.prog.underlying 52 = some (.slice 54) := by kernel_rfl
theorem und22 : Try.prog.underlying 22 = some (.slice 3) := by kernel_rfl
theorem ft54 : fieldTypes Try.prog 54 = some [3, 9, 51, 52] := by kernel_rfl
theorem ft51 : fieldTypes Try.prog 51 = some [4, 49, 49] := by kernel_rfl
theorem wf_i64 {n : Int} (h : (Lit.int .i64 n).wf = true) : -9223372036854775808 ≤ n ∧ n ≤ 9223372036854775807 := by
  simpa [Lit.wf, IntKind.min, IntKind.max, IntKind.signed, IntKind.bits] using h
theorem wf_u32 {n : Int} (h : (Lit.int .u32 n).wf = true) : 0 ≤ n ∧ n ≤ 4294967295 := by
  simpa [Lit.wf, IntKind.min, IntKind.max, IntKind.signed, IntKind.bits] using h
theorem Dt.words {k : Nat} {pvs : List PV} (h : Dt Try.prog k 49 pvs) : ∃ l : List Int, l.length ≤ maxLen ∧ (∀ w ∈ l, 0 ≤ w ∧ w ≤ 4294967295) ∧ pvs = [.sl (wordRows l) false] := by
  obtain ⟨k', rfl, rows, rfl, h1, h2⟩ := h.slice und49
  obtain ⟨l, h3, h4⟩ := rows_choose (Q := fun w => 0 ≤ w ∧ w ≤ 4294967295) (f := fun w : Int => [.int .u32 w]) (fun r hr => by
    obtain ⟨n, h5, h6⟩ := Dt.int und76 hr
    exact ⟨n, wf_u32 h5, h6⟩) rows h2
  subst h4
  exact ⟨l, by simpa using h1, h3, rfl⟩
theorem Dt.node : ∀ (k : Nat) {pvs : List PV}, Dt Try.prog k 54 pvs → ∃ n : Node, n.ok ∧ pvs = n.cells := by
  intro k
  induction k using Nat.strongRecOn with
  | ind k ih =>
    intro pvs h
    obtain ⟨k1, rfl, pss, rfl, s0⟩ := h.struct ft54
    obtain ⟨p1, z1, rfl, h1, s1⟩ := s0.inv
    obtain ⟨p2, z2, rfl, h2, s2⟩ := s1.inv
    obtain ⟨p3, z3, rfl, h3, s3⟩ := s2.inv
    obtain ⟨p4, z4, rfl, h4, s4⟩ := s3.inv
    obtain rfl := s4.inv0
    obtain ⟨a, ha, rfl⟩ := h1.int und3
    obtain ⟨b, hb, rfl⟩ := h2.str und9
    obtain ⟨k2, rfl, qss, rfl, t0⟩ := h3.struct ft51
    obtain ⟨q1, y1, rfl, g1, t1⟩ := t0.inv
    obtain ⟨q2, y2, rfl, g2, t2⟩ := t1.inv
    obtain ⟨q3, y3, rfl, g3, t3⟩ := t2.inv
    obtain rfl := t3.inv0
    obtain ⟨c, rfl⟩ := g1.bool und4
    obtain ⟨d, hd, hd', rfl⟩ := g2.words
    obtain ⟨e, he, he', rfl⟩ := g3.words
    obtain ⟨k3, hk3, rows, rfl, h5, h6⟩ := h4.slice und52
    obtain ⟨f, h7, rfl⟩ := rows_choose (Q := Node.ok) (f := Node.cells) (fun r hr => ih k3 (by omega) hr) rows h6
    refine ⟨.mk a b c d e f, ⟨wf_i64 ha, hb, hd, he, hd', he', by simpa using h5, Node.oks_iff.2 h7⟩, ?_⟩
    simp [Node.cells, Node.rows_eq]
theorem Arg.node {k : Nat} {pv : PV} (h : Arg Try.prog k 54 pv) : ∃ n : Node, n.ok ∧ pv = .agg n.cells := by
  have hf := ft54
  unfold fieldTypes at hf
  split at hf
  · rename_i fs hu
    simp only [Arg, hu] at h
    obtain ⟨cells, rfl, h⟩ := h
    obtain ⟨n, h1, h2⟩ := Dt.node k h
    exact ⟨n, h1, by rw [h2]⟩
  · cases hf
/-- A slice of ints, as an argument. -/
def intRows (l : List Int) : List (List PV) := l.map fun w => [.int .i64 w]
theorem Arg.ints {k : Nat} {pv : PV} (h : Arg Try.prog k 22 pv) : ∃ l : List Int, l.length ≤ maxLen ∧ (∀ w ∈ l, -9223372036854775808 ≤ w ∧ w ≤ 9223372036854775807) ∧ pv = .sl (intRows l) false := by
  simp only [Arg, und22] at h
  obtain ⟨k', rfl, rows, h0, h1, h2⟩ := h.slice und22
  obtain ⟨l, h3, rfl⟩ := rows_choose (Q := fun w => -9223372036854775808 ≤ w ∧ w ≤ 9223372036854775807) (f := fun w : Int => [.int .i64 w]) (fun r hr => by
    obtain ⟨n, h5, h6⟩ := Dt.int und3 hr
    exact ⟨n, wf_i64 h5, h6⟩) rows h2
  exact ⟨l, by simpa using h1, h3, by simpa [intRows] using h0⟩
end Go.Vs
end
/- A law's arguments as pure values, with a bound for what they hold: the second form's bulk. -/
section
set_option linter.unusedVariables false
set_option linter.unusedSimpArgs false
namespace Go.Vs
open Go Go.RowKit Go.Proofs
mutual
/-- How much a value holds. -/
def pvB : PV → Nat
  | .sl rows _ => rowsB rows + 1
  | .agg ps => pvsB ps
  | .str s => s.size + 1
  | _ => 1
def pvsB : List PV → Nat
  | [] => 0
  | p :: r => pvB p + pvsB r
def rowsB : List (List PV) → Nat
  | [] => 0
  | p :: r => pvsB p + rowsB r
end
theorem pvsB_app : ∀ a b : List PV, pvsB (a ++ b) = pvsB a + pvsB b
  | [], b => by simp [pvsB]
  | x :: a, b => by simp [pvsB, pvsB_app a b, Nat.add_assoc]
open Go.Proofs.Ytnddhkcciphhkaa.Rows
section
variable {H : Type}
theorem fields_relB {P : Program} {w : World} {k : Nat} {cs : List Value} : ∀ (fs : List Field) (xs : List (DataW H × List MemPlace)) (o : Nat), tight P o fs = true → o + spanOf P fs = cs.length → xs.length = fs.length →
    (∀ (i : Nat) (f : Field), fs[i]? = some f → ∃ b, xs[i]? = some b ∧ ∃ ps, Dt P k f.type ps ∧ Rel w ps ((cs.drop f.offset).take (P.cellsOf f.type)) ∧ pvsB ps ≤ uptoBulk b.1) →
    ∃ pss : List (List PV), All2 (fun (f : Field) ps => Dt P k f.type ps) fs pss ∧ Rel w pss.flatten (cs.drop o) ∧ pvsB pss.flatten ≤ uptoBulkAll (xs.map (·.1))
  | [], [], o, _, hl, _, _ => ⟨[], .nil, by
    simp only [spanOf] at hl
    rw [List.drop_of_length_le (by omega)]
    exact Rel.nil, by simp [pvsB, uptoBulkAll]⟩
  | f :: r, x :: xs, o, ht, hl, hx, h => by
    simp only [tight, Bool.and_eq_true, beq_iff_eq] at ht
    simp only [spanOf] at hl
    obtain ⟨b, hb, ps, h1, h2, h2'⟩ := h 0 f rfl
    simp only [List.getElem?_cons_zero, Option.some.injEq] at hb
    subst hb
    obtain ⟨pss, h3, h4, h5⟩ := fields_relB (cs := cs) r xs (o + P.cellsOf f.type) ht.2 (by omega) (by simpa using hx) fun i g hg => by
      have := h (i + 1) g (by simpa using hg)
      simpa using this
    refine ⟨ps :: pss, .cons h1 h3, ?_, ?_⟩
    · have e : cs.drop o = (cs.drop f.offset).take (P.cellsOf f.type) ++ cs.drop (o + P.cellsOf f.type) := by
        rw [ht.1, ← List.drop_drop, List.take_append_drop]
      rw [e, List.flatten_cons]
      exact h2.app h4
    · rw [List.flatten_cons, pvsB_app, List.map_cons]
      simp only [uptoBulkAll]
      omega
  | [], _ :: _, _, _, _, hx, _ => by simp at hx
  | _ :: _, [], _, _, _, hx, _ => by simp at hx

theorem rows_bulk {n : Nat} {g : Nat → List PV} : ∀ {l : List (DataW H × List MemPlace)} (o : Nat), (∀ i b, l[i]? = some b → pvsB (g (o + i)) ≤ uptoBulk b.1) → rowsB ((List.range' o l.length).map g) ≤ uptoBulkAll (l.map (·.1))
  | [], o, _ => by simp [rowsB]
  | x :: l, o, h => by
    have h0 := h 0 x rfl
    have h1 := rows_bulk (n := n) (g := g) (l := l) (o + 1) fun i b hb => by
      have := h (i + 1) b (by simpa using hb)
      rw [show o + (i + 1) = o + 1 + i by omega] at this
      exact this
    simp only [List.length_cons, List.range'_succ, List.map_cons, rowsB, uptoBulkAll]
    simp only [Nat.add_zero] at h0
    omega

theorem trod_relB {enc : TypeId × Value → H} {P : Program} {w : World} {base : Nat} {sp : Nat → Bool} {held : Bool} {L : List TypeId} (hL : closedB P L = true) : ∀ (fuel : Nat) {t : TypeId} {cs : List Value} {x : DataW H × List MemPlace}, t ∈ L →
    DataW.trod enc P w base sp held fuel t cs = some x → ∃ pvs, Dt P fuel t pvs ∧ Rel w pvs cs ∧ pvsB pvs ≤ uptoBulk x.1 := by
  intro fuel
  induction fuel with
  | zero => intro t cs x _ h; cases h
  | succ k ih =>
    intro t cs x ht h
    have hc := (List.all_eq_true.1 hL) t ht
    unfold DataW.trod at h
    simp only [Dt]
    cases hu : P.underlying t with
    | none => rw [hu] at hc; cases hc
    | some d =>
      rw [hu] at hc h
      cases d <;> simp only [reduceCtorEq, Bool.false_eq_true] at hc
      case bool =>
        split at h <;> try (first | (cases h; done) | (rename_i hq; cases hq; done))
        rename_i hq
        cases hq
        cases h
        exact ⟨_, ⟨_, rfl⟩, .one (.bool _), by simp [pvsB, pvB, uptoBulk]⟩
      case int kd =>
        split at h <;> try (first | (cases h; done) | (rename_i hq; cases hq; done))
        rename_i hq
        cases hq
        split at h
        · rename_i hw
          obtain ⟨rfl, hw⟩ := hw
          cases h
          exact ⟨_, ⟨_, hw, rfl⟩, .one (.int _ _), by simp [pvsB, pvB, uptoBulk]⟩
        · cases h
      case string =>
        split at h <;> try (first | (cases h; done) | (rename_i hq; cases hq; done))
        rename_i hq
        cases hq
        split at h
        · rename_i hw
          cases h
          exact ⟨_, ⟨_, hw, rfl⟩, .one (.str _), by
            simp only [pvsB, pvB, uptoBulk, Array.length_toList]
            exact Nat.le_refl _⟩
        · cases h
      case slice e =>
        simp only [Bool.and_eq_true, List.contains_iff_mem, beq_iff_eq] at hc
        split at h <;> try (first | (cases h; done) | (rename_i hq; cases hq; done))
        · have key := FR.sl (w := w) (av := NoAv) [] false none 0 default 0 (fun _ _ => Go.undef) (Nat.le_refl _) (by simp) (fun _ => rfl) (fun h => absurd rfl h) (by simp) (by simp) (by simp)
          cases h
          exact ⟨_, ⟨[], rfl, by simp, by simp⟩, .one key, by simp [pvsB, pvB, rowsB, uptoBulk]⟩
        · rename_i e0 a len cap hq
          cases hq
          split at h
          case isFalse => cases h
          rename_i hcap
          obtain ⟨elems, h2, h2'⟩ := bind_some h
          obtain ⟨h3, h4⟩ := mapM_at h2
          rw [List.length_range] at h3
          have each : ∀ i, i < len → ∃ ps, Dt P k e ps ∧ ps.length = P.cellsOf e ∧ (∀ j pv, ps[j]? = some pv → ∃ u, w.cell? (a.add (i * P.cellsOf e + j)) = some u ∧ FR w NoAv pv u) ∧ ∀ b, elems[i]? = some b → pvsB ps ≤ uptoBulk b.1 := by
            intro i hi
            obtain ⟨b, hb, hb'⟩ := h4 i i (by simp [hi])
            obtain ⟨cs, hcs, hb⟩ := bind_some hb
            obtain ⟨ps, p1, p2, p3⟩ := ih hc.1 hb
            unfold World.cells? at hcs
            split at hcs
            · obtain ⟨q1, q2⟩ := mapM_at hcs
              rw [List.length_range] at q1
              refine ⟨ps, p1, by rw [p2.1, q1], fun j pv hj => ?_, fun b' hb2 => ?_⟩
              · have hjl := (List.getElem?_eq_some_iff.1 hj).1
                rw [p2.1, q1] at hjl
                obtain ⟨u, hu1, hu2⟩ := q2 j j (by simp [hjl])
                rw [add_add] at hu1
                exact ⟨u, hu1, p2.2 j pv u hj hu2⟩
              · rw [hb'] at hb2
                cases hb2
                exact p3
            · cases hcs
          -- the rows
          have pick : ∀ i : Nat, ∃ ps : List PV, i < len → Dt P k e ps ∧ ps.length = P.cellsOf e ∧ (∀ j pv, ps[j]? = some pv → ∃ u, w.cell? (a.add (i * P.cellsOf e + j)) = some u ∧ FR w NoAv pv u) ∧ ∀ b, elems[i]? = some b → pvsB ps ≤ uptoBulk b.1 := fun i => by
            by_cases hi : i < len
            · obtain ⟨ps, hps⟩ := each i hi
              exact ⟨ps, fun _ => hps⟩
            · exact ⟨[], fun h => absurd h hi⟩
          obtain ⟨g, hg⟩ := Classical.axiomOfChoice pick
          have hrows : ∀ i row, ((List.range len).map g)[i]? = some row → i < len ∧ row = g i := fun i row hi => by
            rw [List.getElem?_map] at hi
            by_cases hlt : i < len
            · rw [List.getElem?_range hlt] at hi
              simp at hi
              exact ⟨hlt, hi.symm⟩
            · rw [List.getElem?_eq_none (by simpa using hlt)] at hi; cases hi
          have hlen : ((List.range len).map g).length = len := by simp
          have hbulk : rowsB ((List.range len).map g) ≤ uptoBulkAll (elems.map (·.1)) := by
            rw [List.range_eq_range', ← h3]
            refine rows_bulk (n := 0) 0 fun i b hb => ?_
            rw [Nat.zero_add]
            refine (hg i ?_).2.2.2 b hb
            rw [← h3]
            exact (List.getElem?_eq_some_iff.1 hb).1
          obtain ⟨rest, _, hx⟩ := map_some h2'
          refine ⟨_, ⟨(List.range len).map g, rfl, by rw [hlen]; omega, fun row hrow => ?_⟩, ?_, ?_⟩
          · obtain ⟨i, hi⟩ := List.getElem?_of_mem hrow
            obtain ⟨hlt, rfl⟩ := hrows i row hi
            exact (hg i hlt).1
          · have key := FR.sl (w := w) (av := NoAv) ((List.range len).map g) false (some a) cap a (P.cellsOf e) (fun i j => (w.cell? (a.add (i * P.cellsOf e + j))).getD Go.undef) (by rw [hlen]; exact hcap.2.1) (by simp) (by simp) (fun _ => rfl)
              (fun row hrow => by
                obtain ⟨i, hi⟩ := List.getElem?_of_mem hrow
                obtain ⟨hlt, rfl⟩ := hrows i row hi
                exact (hg i hlt).2.1)
              (fun i row j pv hi hj => by
                obtain ⟨hlt, rfl⟩ := hrows i row hi
                obtain ⟨u, u1, u2⟩ := (hg i hlt).2.2.1 j pv hj
                rw [u1]
                exact ⟨rfl, fun h => h⟩)
              (fun i row j pv hi hj => by
                obtain ⟨hlt, rfl⟩ := hrows i row hi
                obtain ⟨u, u1, u2⟩ := (hg i hlt).2.2.1 j pv hj
                simp only [u1, Option.getD_some]
                exact u2)
            rw [hlen] at key
            exact .one key
          · subst hx
            simp only [pvsB, pvB, uptoBulk]
            omega
      case struct fs =>
        simp only [Bool.and_eq_true, List.all_eq_true, List.contains_iff_mem, beq_iff_eq] at hc
        replace h : (if cs.length = P.cellsOf t then (fs.toList.mapM fun f => DataW.trod enc P w base sp held k f.type ((cs.drop f.offset).take (P.cellsOf f.type))).map fun xs => (.agg (xs.map (·.1)), xs.flatMap (·.2)) else none) = some x := h
        split at h
        case isFalse => cases h
        rename_i hlen
        obtain ⟨xs, h2, hx⟩ := map_some h
        obtain ⟨h3, h4⟩ := mapM_at h2
        obtain ⟨pss, q1, q2, q3⟩ := fields_relB (P := P) (w := w) (k := k) (cs := cs) fs.toList xs 0 hc.1.1 (by rw [Nat.zero_add, hc.1.2, hlen]) h3 (fun i f hf => by
          obtain ⟨b, hb, hb'⟩ := h4 i f hf
          exact ⟨b, hb', ih (hc.2 f (List.mem_of_getElem? hf)) hb⟩)
        subst hx
        exact ⟨_, ⟨pss, rfl, q1⟩, by simpa using q2, by simp only [uptoBulk]; omega⟩

theorem arg_ofB {enc : TypeId × Value → H} {P : Program} {W : World} {base base' : Nat} {sp : Nat → Bool} {held : Bool} {L : List TypeId} (hL : closedB P L = true) {t : TypeId} (ht : t ∈ L) {v : Value} {d : DataW H} {p : List MemPlace}
    (hok : Value.okWide P W .any base' t v) (h : DataW.Trod enc P W base sp held t v d p) : ∃ k pv, Arg P k t pv ∧ VR W NoAv noMu pv v ∧ pvB pv ≤ uptoBulk d := by
  obtain ⟨fuel, h⟩ := h
  obtain ⟨pvs, h1, h2, h3⟩ := trod_relB hL fuel ht h
  rcases okWide_form hL ht hok with ⟨fs, cs, hu, rfl⟩ | ⟨hu, hv⟩
  · refine ⟨fuel, .agg pvs, by unfold Arg; rw [hu]; exact ⟨pvs, rfl, h1⟩, .agg _ _ (by rw [h2.1]; rfl) (fun j v hv => ?_) (fun j pv v hp hv => .fr (h2.2 j pv v hp (by rw [← hv]; exact Array.getElem?_toList))), by simpa only [pvB] using h3⟩
    have hlt := (Array.getElem?_eq_some_iff.1 hv).1
    have hp : pvs[j]? = some (pvs[j]'(by rw [h2.1]; exact hlt)) := List.getElem?_eq_getElem _
    exact FR.flat _ _ (h2.2 j _ v hp (by rw [← hv]; exact Array.getElem?_toList))
  · rw [hv] at h2
    obtain ⟨pv, rfl⟩ : ∃ pv, pvs = [pv] := by
      have := h2.1
      cases pvs with
      | nil => simp at this
      | cons a l => cases l with
        | nil => exact ⟨a, rfl⟩
        | cons _ _ => simp at this
    refine ⟨fuel, pv, ?_, .fr (h2.2 0 pv v rfl rfl), by simpa [pvsB] using h3⟩
    unfold Arg
    split
    · rename_i fs hq; exact absurd hq (hu fs)
    · exact h1

theorem args_ofB {enc : TypeId × Value → H} {P : Program} {W : World} {base base' : Nat} {sp : Nat → Bool} {held : Bool} {L : List TypeId} (hL : closedB P L = true) : ∀ {ts : List TypeId} {vs : List Value} {ds : List (DataW H)} {p : List MemPlace}, (∀ t ∈ ts, t ∈ L) →
    (∀ (j : Nat) (t : TypeId) (v : Value), ts[j]? = some t → vs[j]? = some v → Value.okWide P W .any base' t v) → DataW.TrodAll enc P W base sp held ts vs ds p →
    ∃ pvs, Args P ts pvs ∧ pvs.length = vs.length ∧ (∀ (j : Nat) (pv : PV) (v : Value), pvs[j]? = some pv → vs[j]? = some v → VR W NoAv noMu pv v) ∧ pvsB pvs ≤ uptoBulkAll ds
  | [], [], [], _, _, _, _ => ⟨[], .nil, rfl, by simp, by simp [pvsB, uptoBulkAll]⟩
  | t :: ts, v :: vs, d :: ds, _, hsub, hok, ⟨p, q, h1, h2, _⟩ => by
    obtain ⟨k, pv, a1, a2, a3⟩ := arg_ofB hL (hsub t (by simp)) (hok 0 t v rfl rfl) h1
    obtain ⟨pvs, b1, b2, b3, b4⟩ := args_ofB hL (fun t ht => hsub t (by simp [ht])) (fun j t v h1 h2 => hok (j + 1) t v h1 h2) h2
    refine ⟨pv :: pvs, .cons ⟨k, a1⟩ b1, by simp [b2], fun j pv' v' hp hv => ?_, by simp only [pvsB, uptoBulkAll]; omega⟩
    cases j with
    | zero => simp at hp hv; subst hp; subst hv; exact a2
    | succ j => simp at hp hv; exact b3 j pv' v' hp hv
  | [], [], _ :: _, _, _, _, h => h.elim
  | [], _ :: _, _, _, _, _, h => h.elim
  | _ :: _, [], _, _, _, _, h => h.elim
  | _ :: _, _ :: _, [], _, _, _, h => h.elim

/-- The call of a law that is true of arguments of bulk at most n. -/
theorem law_callsB {P : Program} {Hn : Hints} (hm : P.follows .mixedOrders = true) {f : FuncId} {ts : List TypeId} {n : Nat} (law : ∀ pvs, Args P ts pvs → pvsB pvs ≤ n → ∃ n, callP P Hn n f pvs = some (.bool true)) {L : List TypeId} (hL : closedB P L = true) (hsub : ∀ t ∈ ts, t ∈ L)
    {enc : TypeId × Value → H} {W : World} {base base' : Nat} {sp : Nat → Bool} {held : Bool} {args : Array Value} {ds : List (DataW H)} {p : List MemPlace} (hn : uptoBulkAll ds ≤ n)
    (hok : ∀ (j : Nat) (t : TypeId) (v : Value), ts[j]? = some t → args[j]? = some v → Value.okWide P W .any base' t v) (h : DataW.TrodAll enc P W base sp held ts args.toList ds p) :
    Calls P f args W fun e W' => e = .returned (.bool true) ∧ Below W.heap.size W W' := by
  obtain ⟨pvs, a1, a2, a3, a4⟩ := args_ofB hL hsub (fun j t v h1 h2 => hok j t v h1 (by rw [← Array.getElem?_toList]; exact h2)) h
  obtain ⟨n, hn⟩ := law pvs a1 (by omega)
  obtain ⟨fn, c, e1, e2, e3, e4⟩ := callP_sound hm n f pvs _ hn
  refine (e4 W NoAv args (fun b h => h.elim) (by rw [a2]; exact Array.length_toList) (fun j pv v hp hv => a3 j pv v hp (by rw [Array.getElem?_toList]; exact hv))).mono ?_
  rintro e w' ⟨v, rfl, hg, hv⟩
  exact ⟨by rw [hv.bool_inv], Grown.below hg⟩
end
end Go.Vs
end
