/- Rules by which simp runs the printed pieces on typed values. -/
import Derived.IntWalk
import Derived.Test.YtnddhkcciphhkaaMQ9
set_option linter.unusedVariables false
set_option linter.unusedSimpArgs false
namespace Go.Vs
open Go Go.Proofs
attribute [go_sem] if_true if_false eq_self Bool.false_eq_true Bool.true_eq_false Bool.not_true Bool.not_false and_self and_true true_and and_false false_and not_true_eq_false not_false_eq_true

section
variable {R : Type}
@[congr] theorem withV_congr {x y : Option PV} {K : PV → Option R} (h : x = y) : withV x K = withV y K := by rw [h]
@[congr] theorem withN_congr {x y : Option Out} {S S' : Store} {K : PV → Store → Option R} (h : x = y) (hS : S = S') : withN x S K = withN y S' K := by rw [h, hS]
@[congr] theorem withE_congr {x y : Option Eff} {e e' : Env} {K : PV → Env → Store → Option R} (h : x = y) (he : e = e') : withE x e K = withE y e' K := by rw [h, he]
@[congr] theorem withS_congr {x y : Option Eff} {K : PV → Store → Option R} (h : x = y) : withS x K = withS y K := by rw [h]
@[congr] theorem withO_congr {S S' : Store} {x y : PV} {K : PV → Store → Option R} (hS : S = S') (h : x = y) : withO S x K = withO S' y K := by rw [hS, h]
@[congr] theorem withF_congr {S S' : Store} {x y : PV} {K : PV → Store → Option R} (hS : S = S') (h : x = y) : withF S x K = withF S' y K := by rw [hS, h]
@[congr] theorem condC_congr {v v' : PV} {x y : Option R} (h : v = v') : condC v x y = condC v' x y := by rw [h]
/-- A choice by the value of a boolean, its two ways kept apart. -/
@[go_sem 500] theorem withV_bool (b : Bool) (K : PV → Option R) : withV (some (.bool b)) K = if b = true then K (.bool true) else K (.bool false) := by cases b <;> rfl
@[go_sem] theorem withV_true (K : PV → Option R) : withV (some (.bool true)) K = K (.bool true) := nr rfl
@[go_sem] theorem withV_false (K : PV → Option R) : withV (some (.bool false)) K = K (.bool false) := nr rfl
@[go_sem] theorem withV_dec (p : Prop) [Decidable p] (K : PV → Option R) : withV (some (.bool (decide p))) K = if p then K (.bool true) else K (.bool false) := by by_cases h : p <;> simp [h, withV]
@[go_sem] theorem withV_not (b : Bool) (K : PV → Option R) : withV (some (.bool (!b))) K = if b = true then K (.bool false) else K (.bool true) := by cases b <;> rfl
@[go_sem] theorem withV_lbeq (a b : List UInt8) (K : PV → Option R) : withV (some (.bool (a == b))) K = if a = b then K (.bool true) else K (.bool false) := by
  by_cases h : a = b
  · subst h; simp [withV]
  · have h2 : (a == b) = false := by simpa using h
    rw [h2, if_neg h]
    rfl
@[go_sem 1100] theorem withV_ndec (p : Prop) [Decidable p] (K : PV → Option R) : withV (some (.bool (!decide p))) K = if p then K (.bool false) else K (.bool true) := by by_cases h : p <;> simp [h, withV]
@[go_sem 1100] theorem withV_nbeq (a b : Bool) (K : PV → Option R) : withV (some (.bool (!(a == b)))) K = if a = b then K (.bool false) else K (.bool true) := by cases a <;> cases b <;> rfl
@[go_sem 1100] theorem withV_nlbeq (a b : List UInt8) (K : PV → Option R) : withV (some (.bool (!(a == b)))) K = if a = b then K (.bool false) else K (.bool true) := by
  by_cases h : a = b
  · subst h; simp [withV]
  · have h2 : (a == b) = false := by simpa using h
    rw [h2, if_neg h]
    rfl
@[go_sem] theorem withV_less (a b : List UInt8) (K : PV → Option R) : withV (some (.bool (Op.bytesLess a b))) K = if Op.bytesLess a b = true then K (.bool true) else K (.bool false) := withV_bool _ _
@[go_sem] theorem withV_int (k : IntKind) (n : Int) (K : PV → Option R) : withV (some (.int k n)) K = K (.int k n) := nr rfl
@[go_sem] theorem withV_str (s : ByteArray) (K : PV → Option R) : withV (some (.str s)) K = K (.str s) := nr rfl
@[go_sem] theorem withV_sl (r : List (List PV)) (ex : Bool) (K : PV → Option R) : withV (some (.sl r ex)) K = K (.sl r ex) := nr rfl
@[go_sem] theorem withV_cp (r : List PV) (K : PV → Option R) : withV (some (.cp r)) K = K (.cp r) := nr rfl
@[go_sem] theorem withV_agg (r : List PV) (K : PV → Option R) : withV (some (.agg r)) K = K (.agg r) := nr rfl
@[go_sem] theorem withV_tup (r : List PV) (K : PV → Option R) : withV (some (.tup r)) K = K (.tup r) := nr rfl
@[go_sem] theorem withV_msl (i o l : Nat) (ex : Bool) (K : PV → Option R) : withV (some (.msl i o l ex)) K = K (.msl i o l ex) := nr rfl
@[go_sem] theorem withV_mp (i o l : Nat) (K : PV → Option R) : withV (some (.mp i o l)) K = K (.mp i o l) := nr rfl
@[go_sem] theorem withV_fn (f : FuncId) (a c : List PV) (K : PV → Option R) : withV (some (.fn f a c)) K = K (.fn f a c) := nr rfl
@[go_sem] theorem withV_skip (K : PV → Option R) : withV (some .skip) K = K .skip := nr rfl
@[go_sem] theorem withV_none (K : PV → Option R) : withV none K = none := nr rfl
@[go_sem] theorem withV_ite (c : Prop) [Decidable c] (x y : Option PV) (K : PV → Option R) : withV (if c then x else y) K = if c then withV x K else withV y K := by split <;> rfl
@[go_sem] theorem gval_tt (x : Option PV) : gval (.bool true) true x = x := nr rfl
@[go_sem] theorem gval_tf (x : Option PV) : gval (.bool true) false x = some .skip := nr rfl
@[go_sem] theorem gval_ft (x : Option PV) : gval (.bool false) true x = some .skip := nr rfl
@[go_sem] theorem gval_ff (x : Option PV) : gval (.bool false) false x = x := nr rfl
@[go_sem] theorem gval_skip (w : Bool) (x : Option PV) : gval .skip w x = some .skip := nr rfl
@[go_sem] theorem gout_tt (x : Option Out) : gout (.bool true) true x = x := nr rfl
@[go_sem] theorem gout_tf (x : Option Out) : gout (.bool true) false x = some { v := .skip } := nr rfl
@[go_sem] theorem gout_ft (x : Option Out) : gout (.bool false) true x = some { v := .skip } := nr rfl
@[go_sem] theorem gout_ff (x : Option Out) : gout (.bool false) false x = x := nr rfl
@[congr] theorem gval_congr {g g' : PV} {w w' : Bool} {x : Option PV} (h : g = g') (hw : w = w') : gval g w x = gval g' w' x := by rw [h, hw]
@[congr] theorem gout_congr {g g' : PV} {w w' : Bool} {x : Option Out} (h : g = g') (hw : w = w') : gout g w x = gout g' w' x := by rw [h, hw]
@[congr] theorem geff_congr {g g' : PV} {w w' : Bool} {S : Store} {x : Option Eff} (h : g = g') (hw : w = w') : geff g w S x = geff g' w' S x := by rw [h, hw]
@[go_sem] theorem pickO_true (x y : PV) : pickO (.bool true) x y = some x := nr rfl
@[go_sem] theorem pickO_false (x y : PV) : pickO (.bool false) x y = some y := nr rfl
@[go_sem] theorem condC_true (x y : Option R) : condC (.bool true) x y = x := nr rfl
@[go_sem] theorem condC_false (x y : Option R) : condC (.bool false) x y = y := nr rfl
@[go_sem 1100] theorem withN_bool (b : Bool) (S : Store) (K : PV → Store → Option R) : withN (some { v := .bool b, new := none, fz := [] }) S K = if b = true then K (.bool true) S else K (.bool false) S := by cases b <;> rfl
@[go_sem] theorem withN_new (v : PV) (rows : List (List PV)) (g : Option (Option Nat)) (S : Store) (K : PV → Store → Option R) : withN (some { v, new := some (rows, g), fz := [] }) S K = K v (S ++ [.arr rows g false]) := nr rfl
@[go_sem] theorem withN_fz (v : PV) (l : List Nat) (S : Store) (K : PV → Store → Option R) : withN (some { v, new := none, fz := l }) S K = K v (freezeAll S l) := nr rfl
@[go_sem] theorem withN_none (S : Store) (K : PV → Store → Option R) : withN none S K = none := nr rfl
@[go_sem] theorem withN_ite (c : Prop) [Decidable c] (x y : Option Out) (S : Store) (K : PV → Store → Option R) : withN (if c then x else y) S K = if c then withN x S K else withN y S K := by split <;> rfl
@[go_sem] theorem withE_some (v : PV) (S : Store) (l : List Nat) (e : Env) (K : PV → Env → Store → Option R) : withE (some { v, S, kill := l }) e K = K v (killE l e) S := nr rfl
@[go_sem] theorem withS_some (v : PV) (S : Store) (l : List Nat) (K : PV → Store → Option R) : withS (some { v, S, kill := l }) K = K v S := nr rfl
@[go_sem 1100] theorem withS_bool (b : Bool) (S : Store) (l : List Nat) (K : PV → Store → Option R) : withS (some { v := .bool b, S, kill := l }) K = if b = true then K (.bool true) S else K (.bool false) S := by cases b <;> rfl
@[go_sem] theorem withO_nil (S : Store) (K : PV → Store → Option R) : withO S (.sl [] true) K = K (.msl S.length 0 0 false) (S ++ [.arr [] (some none) false]) := nr rfl
@[go_sem] theorem withF_eq (S : Store) (x : PV) (K : PV → Store → Option R) : withF S x K = (fzPV S x).bind fun v => K v (freezeAll S (reach S 8 x.refs)) := nr rfl
@[go_sem] theorem freezeAll_nil (S : Store) : freezeAll S [] = S := nr rfl
@[go_sem] theorem gc_nil (n : Nat) (e : Env) : gc n e [] = [] := by unfold gc; split <;> simp
/-! The same, ahead of a look at what goes on behind. -/
@[go_sem ↓] theorem pre_withV_true (K : PV → Option R) : withV (some (.bool true)) K = K (.bool true) := by exact withV_true ..
@[go_sem ↓] theorem pre_withV_false (K : PV → Option R) : withV (some (.bool false)) K = K (.bool false) := by exact withV_false ..
@[go_sem ↓] theorem pre_withV_int (k : IntKind) (n : Int) (K : PV → Option R) : withV (some (.int k n)) K = K (.int k n) := by exact withV_int ..
@[go_sem ↓] theorem pre_withV_str (s : ByteArray) (K : PV → Option R) : withV (some (.str s)) K = K (.str s) := by exact withV_str ..
@[go_sem ↓] theorem pre_withV_sl (r : List (List PV)) (ex : Bool) (K : PV → Option R) : withV (some (.sl r ex)) K = K (.sl r ex) := by exact withV_sl ..
@[go_sem ↓] theorem pre_withV_cp (r : List PV) (K : PV → Option R) : withV (some (.cp r)) K = K (.cp r) := by exact withV_cp ..
@[go_sem ↓] theorem pre_withV_tup (r : List PV) (K : PV → Option R) : withV (some (.tup r)) K = K (.tup r) := by exact withV_tup ..
@[go_sem ↓] theorem pre_withV_msl (i o l : Nat) (ex : Bool) (K : PV → Option R) : withV (some (.msl i o l ex)) K = K (.msl i o l ex) := by exact withV_msl ..
@[go_sem ↓] theorem pre_withV_mp (i o l : Nat) (K : PV → Option R) : withV (some (.mp i o l)) K = K (.mp i o l) := by exact withV_mp ..
@[go_sem ↓] theorem pre_withV_fn (f : FuncId) (a c : List PV) (K : PV → Option R) : withV (some (.fn f a c)) K = K (.fn f a c) := by exact withV_fn ..
@[go_sem ↓] theorem pre_withV_none (K : PV → Option R) : withV none K = none := by exact withV_none ..
@[go_sem ↓] theorem pre_withN_new (v : PV) (rows : List (List PV)) (g : Option (Option Nat)) (S : Store) (K : PV → Store → Option R) : withN (some { v, new := some (rows, g), fz := [] }) S K = K v (S ++ [.arr rows g false]) := by exact withN_new ..
@[go_sem ↓] theorem pre_withN_none (S : Store) (K : PV → Store → Option R) : withN none S K = none := by exact withN_none ..
@[go_sem ↓] theorem pre_condC_true (x y : Option R) : condC (.bool true) x y = x := by exact condC_true ..
@[go_sem ↓] theorem pre_condC_false (x y : Option R) : condC (.bool false) x y = y := by exact condC_false ..
@[go_sem ↓] theorem pre_gval_tt (x : Option PV) : gval (.bool true) true x = x := by exact gval_tt ..
@[go_sem ↓] theorem pre_gval_tf (x : Option PV) : gval (.bool true) false x = some .skip := by exact gval_tf ..
@[go_sem ↓] theorem pre_gval_ft (x : Option PV) : gval (.bool false) true x = some .skip := by exact gval_ft ..
@[go_sem ↓] theorem pre_gval_ff (x : Option PV) : gval (.bool false) false x = x := by exact gval_ff ..
@[go_sem ↓] theorem pre_gval_skip (w : Bool) (x : Option PV) : gval .skip w x = some .skip := by exact gval_skip ..
@[go_sem ↓] theorem pre_gout_tt (x : Option Out) : gout (.bool true) true x = x := by exact gout_tt ..
@[go_sem ↓] theorem pre_gout_tf (x : Option Out) : gout (.bool true) false x = some { v := .skip } := by exact gout_tf ..
@[go_sem ↓] theorem pre_gout_ft (x : Option Out) : gout (.bool false) true x = some { v := .skip } := by exact gout_ft ..
@[go_sem ↓] theorem pre_gout_ff (x : Option Out) : gout (.bool false) false x = x := by exact gout_ff ..
end

/-! ### Slots -/
@[go_sem] theorem get_nil (t : Nat) : get [] t = .undef := nr rfl
@[go_sem] theorem get_cons (k t : Nat) (v : PV) (r : Env) : get ((k, v) :: r) t = if k = t then v else get r t := nr rfl
@[go_sem] theorem put_nil (t : Nat) (v : PV) : put [] t v = [(t, v)] := nr rfl
@[go_sem] theorem put_cons (k t : Nat) (u v : PV) (r : Env) : put ((k, u) :: r) t v = if k = t then (t, v) :: r else (k, u) :: put r t v := nr rfl

/-! ### Values -/
@[go_sem] theorem evBin_add (ti : TI) (k : IntKind) (a b : Int) : evBin .add ti (.int k a) (.int k b) = some (.int k (k.wrap (a + b))) := by simp [evBin, intOp]
@[go_sem] theorem evBin_sub (ti : TI) (k : IntKind) (a b : Int) : evBin .sub ti (.int k a) (.int k b) = some (.int k (k.wrap (a - b))) := by simp [evBin, intOp]
@[go_sem] theorem evBin_mul (ti : TI) (k : IntKind) (a b : Int) : evBin .mul ti (.int k a) (.int k b) = some (.int k (k.wrap (a * b))) := by simp [evBin, intOp]
@[go_sem] theorem evBin_eql (ti : TI) (k : IntKind) (a b : Int) : evBin .eql ti (.int k a) (.int k b) = some (.bool (decide (a = b))) := by simp [evBin, intOp]
@[go_sem] theorem evBin_neq (ti : TI) (k : IntKind) (a b : Int) : evBin .neq ti (.int k a) (.int k b) = some (.bool (!decide (a = b))) := by simp [evBin, intOp]
@[go_sem] theorem evBin_lss (ti : TI) (k : IntKind) (a b : Int) : evBin .lss ti (.int k a) (.int k b) = some (.bool (decide (a < b))) := by simp [evBin, intOp]
@[go_sem] theorem evBin_leq (ti : TI) (k : IntKind) (a b : Int) : evBin .leq ti (.int k a) (.int k b) = some (.bool (decide (a ≤ b))) := by simp [evBin, intOp]
@[go_sem] theorem evBin_gtr (ti : TI) (k : IntKind) (a b : Int) : evBin .gtr ti (.int k a) (.int k b) = some (.bool (decide (b < a))) := by simp [evBin, intOp]
@[go_sem] theorem evBin_geq (ti : TI) (k : IntKind) (a b : Int) : evBin .geq ti (.int k a) (.int k b) = some (.bool (decide (b ≤ a))) := by simp [evBin, intOp]
@[go_sem] theorem evBin_and (ti : TI) (k : IntKind) (a b : Int) : evBin .and ti (.int k a) (.int k b) = some (.int k (k.wrap (BitVec.ofInt k.bits a &&& BitVec.ofInt k.bits b).toNat)) := by simp [evBin, intOp]
@[go_sem] theorem evBin_or (ti : TI) (k : IntKind) (a b : Int) : evBin .or ti (.int k a) (.int k b) = some (.int k (k.wrap (BitVec.ofInt k.bits a ||| BitVec.ofInt k.bits b).toNat)) := by simp [evBin, intOp]
@[go_sem] theorem evBin_xor (ti : TI) (k : IntKind) (a b : Int) : evBin .xor ti (.int k a) (.int k b) = some (.int k (k.wrap (BitVec.ofInt k.bits a ^^^ BitVec.ofInt k.bits b).toNat)) := by simp [evBin, intOp]
@[go_sem] theorem evBin_quo (ti : TI) (k : IntKind) (a b : Int) : evBin .quo ti (.int k a) (.int k b) = if b = 0 then none else some (.int k (k.wrap (a.tdiv b))) := by simp [evBin, intOp]
@[go_sem] theorem evBin_rem (ti : TI) (k : IntKind) (a b : Int) : evBin .rem ti (.int k a) (.int k b) = if b = 0 then none else some (.int k (a.tmod b)) := by simp [evBin, intOp]
@[go_sem] theorem evBin_shl (ti : TI) (k k' : IntKind) (a b : Int) : evBin .shl ti (.int k a) (.int k' b) = if b < 0 then none else some (.int k (k.wrap (a * 2 ^ min b.toNat k.bits))) := by simp [evBin, shiftOp]
@[go_sem] theorem evBin_shr (ti : TI) (k k' : IntKind) (a b : Int) : evBin .shr ti (.int k a) (.int k' b) = if b < 0 then none else some (.int k (a.fdiv (2 ^ min b.toNat k.bits))) := by simp [evBin, shiftOp]
@[go_sem] theorem evBin_streql (ti : TI) (a b : ByteArray) : evBin .eql ti (.str a) (.str b) = some (.bool (a.toList == b.toList)) := nr rfl
@[go_sem] theorem evBin_strneq (ti : TI) (a b : ByteArray) : evBin .neq ti (.str a) (.str b) = some (.bool (!(a.toList == b.toList))) := nr rfl
@[go_sem] theorem evBin_strlss (ti : TI) (a b : ByteArray) : evBin .lss ti (.str a) (.str b) = some (.bool (Op.bytesLess a.toList b.toList)) := nr rfl
@[go_sem] theorem tyi4 : (tyi Try.prog 4).d = .bool := nr (by kernel_rfl)
@[go_sem] theorem evBin_booleql (a b : Bool) : evBin .eql (tyi Try.prog 4) (.bool a) (.bool b) = some (.bool (a == b)) := by simp [evBin, tyi4]
@[go_sem] theorem evBin_boolneq (a b : Bool) : evBin .neq (tyi Try.prog 4) (.bool a) (.bool b) = some (.bool (!(a == b))) := by simp [evBin, tyi4]
@[go_sem] theorem evUn_not (b : Bool) : evUn .not (.bool b) = some (.bool (!b)) := nr rfl
theorem lenO_str (ti : TI) (h : ti.d = .str) (s : ByteArray) : lenO ti (.str s) = some (.int .i64 s.size) := by simp [lenO, evLen, h]
theorem lenO_sl (ti : TI) {e : TypeId} (h : ti.d = .slice e) (r : List (List PV)) (ex : Bool) : lenO ti (.sl r ex) = some (.int .i64 r.length) := by simp [lenO, evLen, h]
theorem lenO_msl (ti : TI) {e : TypeId} (h : ti.d = .slice e) (i o l : Nat) (ex : Bool) : lenO ti (.msl i o l ex) = some (.int .i64 l) := by simp [lenO, evLen, h]
@[go_sem] theorem tyi9 : (tyi Try.prog 9).d = .str := nr (by kernel_rfl)
@[go_sem] theorem len9 (s : ByteArray) : lenO (tyi Try.prog 9) (.str s) = some (.int .i64 s.size) := lenO_str _ tyi9 s
/-- A byte of a string. -/
def byteAt (s : ByteArray) (i : Nat) : Int := ((s.data.toList.getD i 0).toNat : Int)
@[go_sem] theorem index9 (s : ByteArray) (n : Int) : indexO Try.prog 9 (.str s) (.int .i64 n) = if 0 ≤ n ∧ n < s.size then some (.int .u8 (byteAt s n.toNat)) else none := by
  simp [indexO, tyi9, evIndex, byteAt]
attribute [go_sem] Int.toNat_natCast
@[go_sem] theorem maxO_int (k k' : IntKind) (a b : Int) : maxO [.int k a, .int k' b] = some (.int k (if a < b then b else a)) := nr rfl
@[go_sem] theorem extractO_zero (v : PV) (r : List PV) : extractO (.tup (v :: r)) 0 = some v := nr rfl
@[go_sem] theorem extractO_succ (v : PV) (r : List PV) (i : Nat) : extractO (.tup (v :: r)) (i + 1) = extractO (.tup r) i := nr rfl

/-! ### Values without arrays, and calls with them -/
/-- Mentions no array, and is what it freezes to. -/
def Plain (v : PV) : Prop := v.refs = [] ∧ ∀ S, fzPV S v = some v
theorem Plain.int (k : IntKind) (n : Int) : Plain (.int k n) := ⟨rfl, fun _ => rfl⟩
theorem Plain.bool (b : Bool) : Plain (.bool b) := ⟨rfl, fun _ => rfl⟩
theorem Plain.str (s : ByteArray) : Plain (.str s) := ⟨rfl, fun _ => rfl⟩
theorem Plain.sl (r : List (List PV)) : Plain (.sl r false) := ⟨rfl, fun _ => by cases r <;> rfl⟩
theorem Plain.nil : Plain (.sl [] true) := ⟨rfl, fun _ => rfl⟩
@[go_sem] theorem fzPV_sl (S : Store) (r : List (List PV)) : fzPV S (.sl r false) = some (.sl r false) := nr (by cases r <;> rfl)
@[go_sem] theorem fzPV_nil (S : Store) : fzPV S (.sl [] true) = some (.sl [] true) := nr rfl
theorem reach_nil (S : Store) : ∀ d, reach S d [] = []
  | 0 => rfl
  | d + 1 => by simp [reach, reach_nil S d]
theorem mapO_plain {S : Store} : ∀ {l : List PV}, (∀ a ∈ l, Plain a) → mapO (fzPV S) l = some l
  | [], _ => rfl
  | a :: r, h => by simp [mapO, (h a (by simp)).2 S, mapO_plain (S := S) (l := r) fun x hx => h x (by simp [hx])]
theorem refs_plain : ∀ {l : List PV}, (∀ a ∈ l, Plain a) → l.flatMap PV.refs = []
  | [], _ => rfl
  | a :: r, h => by simp [List.flatMap_cons, (h a (by simp)).1, refs_plain (l := r) fun x hx => h x (by simp [hx])]
/-- A call with plain arguments. -/
theorem callO_plain {S : Store} {f : FuncId} {l : List PV} {v : PV} (h : callL Try.prog hints f l = some v) (ha : ∀ a ∈ l, Plain a) : callO (callL Try.prog hints) S f l = some { v } := by
  simp [callO, refs_plain ha, reach_nil, mapO_plain ha, h]
@[go_sem] theorem some_bind {α β : Type} (a : α) (f : α → Option β) : (some a).bind f = f a := nr rfl
@[go_sem] theorem some_map {α β : Type} (a : α) (f : α → β) : (some a).map f = some (f a) := nr rfl
end Go.Vs
