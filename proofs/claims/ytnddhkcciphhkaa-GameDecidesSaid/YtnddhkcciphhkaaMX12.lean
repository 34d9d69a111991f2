/- Rules by which simp runs the printed pieces on typed values. -/
import Derived.IntWalk
import Derived.Test.YtnddhkcciphhkaaMX7
import Derived.Test.YtnddhkcciphhkaaMX10
section
set_option linter.unusedVariables false
set_option linter.unusedSimpArgs false
namespace Go.Vs
open Go Go.Proofs
attribute [go_sem] if_true if_false eq_self Bool.false_eq_true Bool.true_eq_false Bool.not_true Bool.not_false and_self and_true true_and and_false false_and not_true_eq_false not_false_eq_true

section
variable {R : Type}
@[congr] theorem withV_congr {x y : Option PV} {K : PV → Option R} (h : x = y) : withV x K = withV y K := by rw [h]
@[congr] theorem withN_congr {x y : Option Out} {S S' : Store} {K : PV → Store → Option R} (h : x = y) (hS : S = S') : withN x S K = withN y S' K := by rw [h, hS]
@[congr] theorem withE_congr {x y : Option Eff} {e e' : Env} {K : PV → Env → Store → Option R} (h : x = y) (he : e = e') : withE x e K = withE y e' K := by rw [h, he]
@[congr] theorem withS_congr {x y : Option Eff} {K : PV → Store → Option R} (h : x = y) : withS x K = withS y K := by rw [h]
@[congr] theorem withO_congr {S S' : Store} {x y : PV} {K : PV → Store → Option R} (hS : S = S') (h : x = y) : withO S x K = withO S' y K := by rw [hS, h]
@[congr] theorem withF_congr {S S' : Store} {x y : PV} {K : PV → Store → Option R} (hS : S = S') (h : x = y) : withF S x K = withF S' y K := by rw [hS, h]
@[congr] theorem condC_congr {v v' : PV} {x y : Option R} (h : v = v') : condC v x y = condC v' x y := by rw [h]
/-- A choice by the value of a boolean, its two ways kept apart. -/
@[go_sem] theorem withV_true (K : PV → Option R) : withV (some (.bool true)) K = K (.bool true) := nr rfl
@[go_sem] theorem withV_false (K : PV → Option R) : withV (some (.bool false)) K = K (.bool false) := nr rfl
@[go_sem] theorem withV_dec (p : Prop) [Decidable p] (K : PV → Option R) : withV (some (.bool (decide p))) K = if p then K (.bool true) else K (.bool false) := by by_cases h : p <;> simp [h, withV]
@[go_sem] theorem withV_not (b : Bool) (K : PV → Option R) : withV (some (.bool (!b))) K = if b = true then K (.bool false) else K (.bool true) := by cases b <;> rfl
@[go_sem] theorem withV_int (k : IntKind) (n : Int) (K : PV → Option R) : withV (some (.int k n)) K = K (.int k n) := nr rfl
@[go_sem] theorem withV_sl (r : List (List PV)) (ex : Bool) (K : PV → Option R) : withV (some (.sl r ex)) K = K (.sl r ex) := nr rfl
@[go_sem] theorem withV_cp (r : List PV) (K : PV → Option R) : withV (some (.cp r)) K = K (.cp r) := nr rfl
@[go_sem] theorem withV_msl (i o l : Nat) (ex : Bool) (K : PV → Option R) : withV (some (.msl i o l ex)) K = K (.msl i o l ex) := nr rfl
@[go_sem] theorem withV_mp (i o l : Nat) (K : PV → Option R) : withV (some (.mp i o l)) K = K (.mp i o l) := nr rfl
@[go_sem] theorem gval_tt (x : Option PV) : gval (.bool true) true x = x := nr rfl
@[go_sem] theorem gval_tf (x : Option PV) : gval (.bool true) false x = some .skip := nr rfl
@[go_sem] theorem gval_ft (x : Option PV) : gval (.bool false) true x = some .skip := nr rfl
@[go_sem] theorem gval_ff (x : Option PV) : gval (.bool false) false x = x := nr rfl
@[go_sem] theorem gval_skip (w : Bool) (x : Option PV) : gval .skip w x = some .skip := nr rfl
@[congr] theorem gval_congr {g g' : PV} {w w' : Bool} {x : Option PV} (h : g = g') (hw : w = w') : gval g w x = gval g' w' x := by rw [h, hw]
@[congr] theorem gout_congr {g g' : PV} {w w' : Bool} {x : Option Out} (h : g = g') (hw : w = w') : gout g w x = gout g' w' x := by rw [h, hw]
@[congr] theorem geff_congr {g g' : PV} {w w' : Bool} {S : Store} {x : Option Eff} (h : g = g') (hw : w = w') : geff g w S x = geff g' w' S x := by rw [h, hw]
@[go_sem] theorem pickO_true (x y : PV) : pickO (.bool true) x y = some x := nr rfl
@[go_sem] theorem pickO_false (x y : PV) : pickO (.bool false) x y = some y := nr rfl
@[go_sem] theorem condC_true (x y : Option R) : condC (.bool true) x y = x := nr rfl
@[go_sem] theorem condC_false (x y : Option R) : condC (.bool false) x y = y := nr rfl
@[go_sem] theorem withN_new (v : PV) (rows : List (List PV)) (g : Option (Option Nat)) (S : Store) (K : PV → Store → Option R) : withN (some { v, new := some (rows, g), fz := [] }) S K = K v (S ++ [.arr rows g false]) := nr rfl
@[go_sem] theorem withN_fz (v : PV) (l : List Nat) (S : Store) (K : PV → Store → Option R) : withN (some { v, new := none, fz := l }) S K = K v (freezeAll S l) := nr rfl
@[go_sem] theorem withE_some (v : PV) (S : Store) (l : List Nat) (e : Env) (K : PV → Env → Store → Option R) : withE (some { v, S, kill := l }) e K = K v (killE l e) S := nr rfl
@[go_sem] theorem withS_some (v : PV) (S : Store) (l : List Nat) (K : PV → Store → Option R) : withS (some { v, S, kill := l }) K = K v S := nr rfl
@[go_sem] theorem withO_nil (S : Store) (K : PV → Store → Option R) : withO S (.sl [] true) K = K (.msl S.length 0 0 false) (S ++ [.arr [] (some none) false]) := nr rfl
@[go_sem] theorem freezeAll_nil (S : Store) : freezeAll S [] = S := nr rfl
/-! The same, ahead of a look at what goes on behind. -/
@[go_sem ↓] theorem pre_withV_true (K : PV → Option R) : withV (some (.bool true)) K = K (.bool true) := by exact withV_true ..
@[go_sem ↓] theorem pre_withV_false (K : PV → Option R) : withV (some (.bool false)) K = K (.bool false) := by exact withV_false ..
@[go_sem ↓] theorem pre_withV_int (k : IntKind) (n : Int) (K : PV → Option R) : withV (some (.int k n)) K = K (.int k n) := by exact withV_int ..
@[go_sem ↓] theorem pre_withV_sl (r : List (List PV)) (ex : Bool) (K : PV → Option R) : withV (some (.sl r ex)) K = K (.sl r ex) := by exact withV_sl ..
@[go_sem ↓] theorem pre_withV_msl (i o l : Nat) (ex : Bool) (K : PV → Option R) : withV (some (.msl i o l ex)) K = K (.msl i o l ex) := by exact withV_msl ..
@[go_sem ↓] theorem pre_withE_some (v : PV) (S : Store) (l : List Nat) (e : Env) (K : PV → Env → Store → Option R) : withE (some { v, S, kill := l }) e K = K v (killE l e) S := by exact withE_some ..
@[go_sem ↓] theorem pre_condC_true (x y : Option R) : condC (.bool true) x y = x := by exact condC_true ..
@[go_sem ↓] theorem pre_condC_false (x y : Option R) : condC (.bool false) x y = y := by exact condC_false ..
@[go_sem ↓] theorem pre_gval_tt (x : Option PV) : gval (.bool true) true x = x := by exact gval_tt ..
@[go_sem ↓] theorem pre_gval_tf (x : Option PV) : gval (.bool true) false x = some .skip := by exact gval_tf ..
@[go_sem ↓] theorem pre_gval_ft (x : Option PV) : gval (.bool false) true x = some .skip := by exact gval_ft ..
@[go_sem ↓] theorem pre_gval_ff (x : Option PV) : gval (.bool false) false x = x := by exact gval_ff ..
@[go_sem ↓] theorem pre_gval_skip (w : Bool) (x : Option PV) : gval .skip w x = some .skip := by exact gval_skip ..
end

/-! ### Slots -/
@[go_sem] theorem get_nil (t : Nat) : get [] t = .undef := nr rfl
@[go_sem] theorem get_cons (k t : Nat) (v : PV) (r : Env) : get ((k, v) :: r) t = if k = t then v else get r t := nr rfl
@[go_sem] theorem put_nil (t : Nat) (v : PV) : put [] t v = [(t, v)] := nr rfl
@[go_sem] theorem put_cons (k t : Nat) (u v : PV) (r : Env) : put ((k, u) :: r) t v = if k = t then (t, v) :: r else (k, u) :: put r t v := nr rfl

/-! ### Values -/
@[go_sem] theorem evBin_add (ti : TI) (k : IntKind) (a b : Int) : evBin .add ti (.int k a) (.int k b) = some (.int k (k.wrap (a + b))) := by simp [evBin, intOp]
@[go_sem] theorem evBin_sub (ti : TI) (k : IntKind) (a b : Int) : evBin .sub ti (.int k a) (.int k b) = some (.int k (k.wrap (a - b))) := by simp [evBin, intOp]
@[go_sem] theorem evBin_mul (ti : TI) (k : IntKind) (a b : Int) : evBin .mul ti (.int k a) (.int k b) = some (.int k (k.wrap (a * b))) := by simp [evBin, intOp]
@[go_sem] theorem evBin_eql (ti : TI) (k : IntKind) (a b : Int) : evBin .eql ti (.int k a) (.int k b) = some (.bool (decide (a = b))) := by simp [evBin, intOp]
@[go_sem] theorem evBin_neq (ti : TI) (k : IntKind) (a b : Int) : evBin .neq ti (.int k a) (.int k b) = some (.bool (!decide (a = b))) := by simp [evBin, intOp]
@[go_sem] theorem evBin_lss (ti : TI) (k : IntKind) (a b : Int) : evBin .lss ti (.int k a) (.int k b) = some (.bool (decide (a < b))) := by simp [evBin, intOp]
@[go_sem] theorem evBin_leq (ti : TI) (k : IntKind) (a b : Int) : evBin .leq ti (.int k a) (.int k b) = some (.bool (decide (a ≤ b))) := by simp [evBin, intOp]
@[go_sem] theorem evBin_gtr (ti : TI) (k : IntKind) (a b : Int) : evBin .gtr ti (.int k a) (.int k b) = some (.bool (decide (b < a))) := by simp [evBin, intOp]
@[go_sem] theorem evBin_geq (ti : TI) (k : IntKind) (a b : Int) : evBin .geq ti (.int k a) (.int k b) = some (.bool (decide (b ≤ a))) := by simp [evBin, intOp]
@[go_sem] theorem evBin_and (ti : TI) (k : IntKind) (a b : Int) : evBin .and ti (.int k a) (.int k b) = some (.int k (k.wrap (BitVec.ofInt k.bits a &&& BitVec.ofInt k.bits b).toNat)) := by simp [evBin, intOp]
@[go_sem] theorem evBin_or (ti : TI) (k : IntKind) (a b : Int) : evBin .or ti (.int k a) (.int k b) = some (.int k (k.wrap (BitVec.ofInt k.bits a ||| BitVec.ofInt k.bits b).toNat)) := by simp [evBin, intOp]
@[go_sem] theorem evBin_xor (ti : TI) (k : IntKind) (a b : Int) : evBin .xor ti (.int k a) (.int k b) = some (.int k (k.wrap (BitVec.ofInt k.bits a ^^^ BitVec.ofInt k.bits b).toNat)) := by simp [evBin, intOp]
@[go_sem] theorem evBin_quo (ti : TI) (k : IntKind) (a b : Int) : evBin .quo ti (.int k a) (.int k b) = if b = 0 then none else some (.int k (k.wrap (a.tdiv b))) := by simp [evBin, intOp]
@[go_sem] theorem evBin_rem (ti : TI) (k : IntKind) (a b : Int) : evBin .rem ti (.int k a) (.int k b) = if b = 0 then none else some (.int k (a.tmod b)) := by simp [evBin, intOp]
@[go_sem] theorem evBin_shl (ti : TI) (k k' : IntKind) (a b : Int) : evBin .shl ti (.int k a) (.int k' b) = if b < 0 then none else some (.int k (k.wrap (a * 2 ^ min b.toNat k.bits))) := by simp [evBin, shiftOp]
@[go_sem] theorem evBin_shr (ti : TI) (k k' : IntKind) (a b : Int) : evBin .shr ti (.int k a) (.int k' b) = if b < 0 then none else some (.int k (a.fdiv (2 ^ min b.toNat k.bits))) := by simp [evBin, shiftOp]
@[go_sem] theorem evBin_streql (ti : TI) (a b : ByteArray) : evBin .eql ti (.str a) (.str b) = some (.bool (a.toList == b.toList)) := nr rfl
@[go_sem] theorem tyi4 : (tyi Try.prog 4).d = .bool := nr (by kernel_rfl)
@[go_sem] theorem evBin_booleql (a b : Bool) : evBin .eql (tyi Try.prog 4) (.bool a) (.bool b) = some (.bool (a == b)) := by simp [evBin, tyi4]
@[go_sem] theorem evBin_boolneq (a b : Bool) : evBin .neq (tyi Try.prog 4) (.bool a) (.bool b) = some (.bool (!(a == b))) := by simp [evBin, tyi4]
@[go_sem] theorem evUn_not (b : Bool) : evUn .not (.bool b) = some (.bool (!b)) := nr rfl
theorem lenO_sl (ti : TI) {e : TypeId} (h : ti.d = .slice e) (r : List (List PV)) (ex : Bool) : lenO ti (.sl r ex) = some (.int .i64 r.length) := by simp [lenO, evLen, h]
theorem lenO_msl (ti : TI) {e : TypeId} (h : ti.d = .slice e) (i o l : Nat) (ex : Bool) : lenO ti (.msl i o l ex) = some (.int .i64 l) := by simp [lenO, evLen, h]
@[go_sem] theorem tyi9 : (tyi Try.prog 9).d = .str := nr (by kernel_rfl)
/-- A byte of a string. -/
def byteAt (s : ByteArray) (i : Nat) : Int := ((s.data.toList.getD i 0).toNat : Int)
attribute [go_sem] Int.toNat_natCast
/-! ### Values without arrays, and calls with them -/
/-- Mentions no array, and is what it freezes to. -/
def Plain (v : PV) : Prop := v.refs = [] ∧ ∀ S, fzPV S v = some v
theorem Plain.int (k : IntKind) (n : Int) : Plain (.int k n) := ⟨rfl, fun _ => rfl⟩
theorem Plain.bool (b : Bool) : Plain (.bool b) := ⟨rfl, fun _ => rfl⟩
theorem Plain.str (s : ByteArray) : Plain (.str s) := ⟨rfl, fun _ => rfl⟩
theorem Plain.sl (r : List (List PV)) : Plain (.sl r false) := ⟨rfl, fun _ => by cases r <;> rfl⟩
theorem Plain.nil : Plain (.sl [] true) := ⟨rfl, fun _ => rfl⟩
@[go_sem] theorem fzPV_sl (S : Store) (r : List (List PV)) : fzPV S (.sl r false) = some (.sl r false) := nr (by cases r <;> rfl)
theorem reach_nil (S : Store) : ∀ d, reach S d [] = []
  | 0 => rfl
  | d + 1 => by simp [reach, reach_nil S d]
theorem mapO_plain {S : Store} : ∀ {l : List PV}, (∀ a ∈ l, Plain a) → mapO (fzPV S) l = some l
  | [], _ => rfl
  | a :: r, h => by simp [mapO, (h a (by simp)).2 S, mapO_plain (S := S) (l := r) fun x hx => h x (by simp [hx])]
theorem refs_plain : ∀ {l : List PV}, (∀ a ∈ l, Plain a) → l.flatMap PV.refs = []
  | [], _ => rfl
  | a :: r, h => by simp [List.flatMap_cons, (h a (by simp)).1, refs_plain (l := r) fun x hx => h x (by simp [hx])]
/-- A call with plain arguments. -/
theorem callO_plain {S : Store} {f : FuncId} {l : List PV} {v : PV} (h : callL Try.prog hints f l = some v) (ha : ∀ a ∈ l, Plain a) : callO (callL Try.prog hints) S f l = some { v } := by
  simp [callO, refs_plain ha, reach_nil, mapO_plain ha, h]
@[go_sem] theorem some_bind {α β : Type} (a : α) (f : α → Option β) : (some a).bind f = f a := nr rfl
@[go_sem] theorem some_map {α β : Type} (a : α) (f : α → β) : (some a).map f = some (f a) := nr rfl
end Go.Vs
end
/- Printed by a program of mine (stage1.py): the functions 66, 67, 38, 39, 40, 41, piece by piece. -/
section
set_option linter.unusedVariables false
set_option linter.unusedSimpArgs false
namespace Go.Vs
open Go Go.Proofs
noncomputable section

/-! ### tree.letter -/
namespace F66
section
variable (b : Nat) (K : KT) (x0 x2 : PV) (e : Env) (S : Store)
end
end F66
/-! ### isochroneref08.letter -/
namespace F67
section
variable (b : Nat) (K : KT) (x0 x2 : PV) (e : Env) (S : Store)
end
end F67
/-! ### tree.Name -/
namespace F38
section
variable (b i n n0 : Nat) (K : KT) (x0 x2 x3 x17 x21 x40 x41 x42 : PV) (e : Env) (S : Store)
end
end F38
/-! ### isochroneref08.Name -/
namespace F39
section
variable (b i n n0 : Nat) (K : KT) (x0 x2 x3 x27 x31 x54 : PV) (e : Env) (S : Store)
end
end F39
/-! ### tree.Sort -/
namespace F40
section
variable (b : Nat) (K : KT) (x0 x2 x3 x10 x17 x24 : PV) (e : Env) (S : Store)
end
end F40
/-! ### isochroneref08.Sort -/
namespace F41
section
variable (b : Nat) (K : KT) (x0 x2 x3 x10 x17 x24 : PV) (e : Env) (S : Store)
end
end F41
end
end Go.Vs
end
/- tree.Name, tree.Sort, and the reference's: what they return. -/
section
set_option linter.unusedVariables false
set_option linter.unusedSimpArgs false
namespace Go.Vs
open Go Go.Proofs
def isLetter (c : Int) : Bool := decide (97 ≤ c ∧ c ≤ 122 ∨ 65 ≤ c ∧ c ≤ 90)
def isDigit (c : Int) : Bool := decide (48 ≤ c ∧ c ≤ 57)
/-- From byte i on, letters and digits alone. -/
def restOK (s : ByteArray) : Nat → Nat → Bool
  | 0, i => true
  | m + 1, i => (isLetter (byteAt s i) || isDigit (byteAt s i)) && restOK s m (i + 1)
def keyword (s : ByteArray) : Bool := s.toList == (⟨#[116, 114, 117, 101]⟩ : ByteArray).toList || s.toList == (⟨#[102, 97, 108, 115, 101]⟩ : ByteArray).toList || s.toList == (⟨#[102, 111, 114, 97, 108, 108]⟩ : ByteArray).toList || s.toList == (⟨#[101, 120, 105, 115, 116, 115]⟩ : ByteArray).toList
/-- A name. -/
def nameOK (s : ByteArray) : Bool := decide (0 < s.size ∧ s.size ≤ 12) && isLetter (byteAt s 0) && restOK s s.size 0 && !keyword s
/-- The sort of an operator. -/
def sortOf (n : Int) : Int := if 1 ≤ n ∧ n ≤ 13 then 1 else if 20 ≤ n ∧ n ≤ 39 then 2 else if n = 55 ∨ n = 56 then 4 else if 50 ≤ n ∧ n ≤ 62 then 3 else 0
end Go.Vs
end
/- A law's arguments, by their types. -/
section
set_option linter.unusedVariables false
namespace Go.Vs
open Go Go.Proofs
theorem und3 : Try.prog.underlying 3 = some (.int .i64) := by kernel_rfl
theorem und4 : Try.prog.underlying 4 = some .bool := by kernel_rfl
theorem und9 : Try.prog.underlying 9 = some .string := by kernel_rfl
section
variable {P : Program} {k : Nat} {t : TypeId} {pv : PV} {pvs : List PV}
theorem Arg.str (hu : P.underlying t = some .string) (h : Arg P k t pv) : ∃ s : ByteArray, s.size ≤ maxLen ∧ pv = .str s := by
  simp only [Arg, hu] at h
  cases k with
  | zero => simp only [Dt] at h
  | succ k =>
    simp only [Dt, hu] at h
    obtain ⟨s, h1, h2⟩ := h
    exact ⟨s, h1, by simpa using h2⟩
theorem Arg.int {kd : IntKind} (hu : P.underlying t = some (.int kd)) (h : Arg P k t pv) : ∃ n, (Lit.int kd n).wf = true ∧ pv = .int kd n := by
  simp only [Arg, hu] at h
  cases k with
  | zero => simp only [Dt] at h
  | succ k =>
    simp only [Dt, hu] at h
    obtain ⟨s, h1, h2⟩ := h
    exact ⟨s, h1, by simpa using h2⟩
theorem Args.nil_inv (h : Args P [] pvs) : pvs = [] := by cases h; rfl
theorem Args.cons_inv {ts : List TypeId} (h : Args P (t :: ts) pvs) : ∃ pv r k, pvs = pv :: r ∧ Arg P k t pv ∧ Args P ts r := by
  cases h with
  | cons h r =>
    obtain ⟨k, h⟩ := h
    exact ⟨_, _, k, rfl, h, r⟩
end
end Go.Vs
end
/- Trees as data, and what operations do with them. -/
section
set_option linter.unusedVariables false
set_option linter.unusedSimpArgs false
namespace Go.Vs
open Go Go.Proofs

/-! ### Types -/
@[go_sem] theorem d54 : (tyi Try.prog 54).d = .struct [(0, 1, false), (1, 1, false), (2, 3, true), (5, 1, false)] := nr (by kernel_rfl)
@[go_sem] theorem d51 : (tyi Try.prog 51).d = .struct [(0, 1, false), (1, 1, false), (2, 1, false)] := nr (by kernel_rfl)
@[go_sem] theorem d52 : (tyi Try.prog 52).d = .slice 54 := nr (by kernel_rfl)
@[go_sem] theorem d49 : (tyi Try.prog 49).d = .slice 76 := nr (by kernel_rfl)
@[go_sem] theorem d22 : (tyi Try.prog 22).d = .slice 3 := nr (by kernel_rfl)
@[go_sem] theorem d23 : (tyi Try.prog 23).d = .slice 22 := nr (by kernel_rfl)
@[go_sem] theorem d3 : (tyi Try.prog 3).d = .int .i64 := nr (by kernel_rfl)
@[go_sem] theorem d76 : (tyi Try.prog 76).d = .int .u32 := nr (by kernel_rfl)
@[go_sem] theorem size54 : (tyi Try.prog 54).size = 6 := nr (by kernel_rfl)
@[go_sem] theorem size51 : (tyi Try.prog 51).size = 3 := nr (by kernel_rfl)
@[go_sem] theorem size22 : (tyi Try.prog 22).size = 1 := nr (by kernel_rfl)
@[go_sem] theorem size3 : (tyi Try.prog 3).size = 1 := nr (by kernel_rfl)
@[go_sem] theorem size4 : (tyi Try.prog 4).size = 1 := nr (by kernel_rfl)
@[go_sem] theorem known54 : (tyi Try.prog 54).known = true := nr (by kernel_rfl)
@[go_sem] theorem known51 : (tyi Try.prog 51).known = true := nr (by kernel_rfl)
@[go_sem] theorem known52 : (tyi Try.prog 52).known = true := nr (by kernel_rfl)
@[go_sem] theorem known49 : (tyi Try.prog 49).known = true := nr (by kernel_rfl)
@[go_sem] theorem known22 : (tyi Try.prog 22).known = true := nr (by kernel_rfl)
@[go_sem] theorem known3 : (tyi Try.prog 3).known = true := nr (by kernel_rfl)
@[go_sem] theorem known4 : (tyi Try.prog 4).known = true := nr (by kernel_rfl)
@[go_sem] theorem known9 : (tyi Try.prog 9).known = true := nr (by kernel_rfl)
@[go_sem] theorem known76 : (tyi Try.prog 76).known = true := nr (by kernel_rfl)
@[go_sem] theorem part3 (v : PV) (r : List PV) : part (tyi Try.prog 3) (v :: r) = some v := by simp [part, known3, TI.isAgg, d3]
@[go_sem] theorem part4 (v : PV) (r : List PV) : part (tyi Try.prog 4) (v :: r) = some v := by simp [part, known4, TI.isAgg, tyi4]
@[go_sem] theorem part9 (v : PV) (r : List PV) : part (tyi Try.prog 9) (v :: r) = some v := by simp [part, known9, TI.isAgg, tyi9]
@[go_sem] theorem part76 (v : PV) (r : List PV) : part (tyi Try.prog 76) (v :: r) = some v := by simp [part, known76, TI.isAgg, d76]
@[go_sem] theorem part49 (v : PV) (r : List PV) : part (tyi Try.prog 49) (v :: r) = some v := by simp [part, known49, TI.isAgg, d49]
@[go_sem] theorem part52 (v : PV) (r : List PV) : part (tyi Try.prog 52) (v :: r) = some v := by simp [part, known52, TI.isAgg, d52]
@[go_sem] theorem part22 (v : PV) (r : List PV) : part (tyi Try.prog 22) (v :: r) = some v := by simp [part, known22, TI.isAgg, d22]
@[go_sem] theorem part51 (a b c : PV) (r : List PV) : part (tyi Try.prog 51) (a :: b :: c :: r) = some (.agg [a, b, c]) := by simp [part, known51, TI.isAgg, d51, size51]
@[go_sem] theorem part54 (a b c d e f : PV) (r : List PV) : part (tyi Try.prog 54) (a :: b :: c :: d :: e :: f :: r) = some (.agg [a, b, c, d, e, f]) := by simp [part, known54, TI.isAgg, d54, size54]

/-! ### Memory -/
@[go_sem] theorem evLoad_cp (ti : TI) (S : Store) (r : List PV) : evLoad ti S (.cp r) = part ti r := nr rfl
@[go_sem] theorem evLoad_mp (ti : TI) (S : Store) (id i off : Nat) : evLoad ti S (.mp id i off) = (rowsAt S id).bind fun rows => if i < rows.length then part ti ((rows.getD i []).drop off) else none := nr rfl
@[go_sem] theorem rowsAt_zero (rows : List (List PV)) (g : Option (Option Nat)) (f : Bool) (S : Store) : rowsAt (.arr rows g f :: S) 0 = some rows := nr rfl
@[go_sem] theorem rowsAt_succ (o : Obj) (S : Store) (n : Nat) : rowsAt (o :: S) (n + 1) = rowsAt S n := nr rfl
attribute [go_sem] List.nil_append List.cons_append List.length_cons List.length_nil List.getD_cons_zero List.drop_zero List.drop_succ_cons Nat.zero_add Nat.add_zero Nat.lt_add_one
@[go_sem] theorem len22 (r : List (List PV)) (ex : Bool) : lenO (tyi Try.prog 22) (.sl r ex) = some (.int .i64 r.length) := lenO_sl _ d22 r ex
@[go_sem] theorem len23 (r : List (List PV)) (ex : Bool) : lenO (tyi Try.prog 23) (.sl r ex) = some (.int .i64 r.length) := lenO_sl _ d23 r ex

/-! ### Trees -/
inductive Node where
  | mk (op : Int) (name : ByteArray) (neg : Bool) (num den : List Int) (kids : List Node)
namespace Node
def op : Node → Int | mk a _ _ _ _ _ => a
def name : Node → ByteArray | mk _ a _ _ _ _ => a
def neg : Node → Bool | mk _ _ a _ _ _ => a
def num : Node → List Int | mk _ _ _ a _ _ => a
def den : Node → List Int | mk _ _ _ _ a _ => a
def kids : Node → List Node | mk _ _ _ _ _ a => a
instance : Inhabited Node := ⟨mk 0 ByteArray.empty false [] [] []⟩
end Node
/-- Words, as rows of memory. -/
def wordRows (l : List Int) : List (List PV) := l.map fun w => [.int .u32 w]
mutual
def Node.cells : Node → List PV
  | .mk a b c d e f => [.int .i64 a, .str b, .bool c, .sl (wordRows d) false, .sl (wordRows e) false, .sl (Node.rows f) false]
def Node.rows : List Node → List (List PV)
  | [] => []
  | n :: r => n.cells :: Node.rows r
end
mutual
/-- What a tree in memory is, besides: numbers in their bounds, lists in theirs. -/
def Node.ok : Node → Prop
  | .mk a b c d e f => (-9223372036854775808 ≤ a ∧ a ≤ 9223372036854775807) ∧ b.size ≤ maxLen ∧ d.length ≤ maxLen ∧ e.length ≤ maxLen ∧ (∀ w ∈ d, 0 ≤ w ∧ w ≤ 4294967295) ∧ (∀ w ∈ e, 0 ≤ w ∧ w ≤ 4294967295) ∧ f.length ≤ maxLen ∧ Node.oks f
def Node.oks : List Node → Prop
  | [] => True
  | n :: r => n.ok ∧ Node.oks r
end
theorem Node.oks_iff : ∀ {l : List Node}, Node.oks l ↔ ∀ n ∈ l, n.ok
  | [] => by simp [Node.oks]
  | n :: r => by simp [Node.oks, Node.oks_iff (l := r)]
theorem Node.rows_eq : ∀ l, Node.rows l = l.map Node.cells
  | [] => rfl
  | n :: r => by rw [Node.rows, Node.rows_eq r]; rfl
@[go_sem] theorem Node.cells_length (n : Node) : n.cells.length = 6 := nr (by cases n; rfl)
@[go_sem] theorem Node.cells_cell (n : Node) : n.cells.all PV.cell = true := nr (by cases n; rfl)
@[go_sem] theorem Node.drop1 (n : Node) : n.cells.drop 1 = [.str n.name, .bool n.neg, .sl (wordRows n.num) false, .sl (wordRows n.den) false, .sl (Node.rows n.kids) false] := nr (by cases n; rfl)
@[go_sem] theorem Node.drop2 (n : Node) : n.cells.drop 2 = [.bool n.neg, .sl (wordRows n.num) false, .sl (wordRows n.den) false, .sl (Node.rows n.kids) false] := nr (by cases n; rfl)
@[go_sem] theorem Node.part54 (n : Node) : part (tyi Try.prog 54) n.cells = some (.agg n.cells) := by cases n; simp only [Node.cells, Vs.part54]
@[go_sem] theorem Node.part3 (n : Node) : part (tyi Try.prog 3) n.cells = some (.int .i64 n.op) := by cases n; simp only [Node.cells, Vs.part3]; rfl
theorem Node.plain (n : Node) : Plain (.agg n.cells) := by cases n; exact ⟨rfl, fun _ => rfl⟩
@[go_sem] theorem Node.fz (S : Store) (n : Node) : fzPV S (.agg n.cells) = some (.agg n.cells) := n.plain.2 S
@[go_sem] theorem Node.refs (n : Node) : refsL n.cells = [] := nr (by cases n; rfl)
@[go_sem] theorem Node.rows_length (l : List Node) : (Node.rows l).length = l.length := by rw [Node.rows_eq]; simp
@[go_sem] theorem wordRows_length (l : List Int) : (wordRows l).length = l.length := by simp [wordRows]
@[go_sem] theorem idx52 (S : Store) (l : List Node) (ex : Bool) (i : Int) : indexAddrO Try.prog 52 S (.sl (Node.rows l) ex) (.int .i64 i) = if 0 ≤ i ∧ i < l.length then some (.cp (l.getD i.toNat default).cells) else none := by
  have e1 : elemTy (tyi Try.prog 52) = 54 := by simp [elemTy, d52]
  have e2 : isSlice (tyi Try.prog 52) = true := by simp [isSlice, d52]
  simp only [indexAddrO, e1, e2, known54, size54, and_self, if_true, evIndexAddr, Node.rows_length]
  split
  · rename_i h
    have hl : i.toNat < l.length := by omega
    have e3 : (Node.rows l).getD i.toNat [] = (l.getD i.toNat default).cells := by
      rw [Node.rows_eq]
      simp [List.getD_eq_getElem?_getD, hl]
    rw [e3, if_pos (Node.cells_length _)]
  · rfl
@[go_sem] theorem boxed_if (S : Store) (id k : Nat) (v : PV) : boxed S id k v = if v.cells.length = k ∧ v.cells.all PV.cell = true then some { v := .mp id 0 0, new := some ([v.cells], none) } else none := nr rfl
def zeroNode : List PV := [.int .i64 0, .str ByteArray.empty, .bool false, .sl [] true, .sl [] true, .sl [] true]
end Go.Vs
end
/- Rules for stores of known arrays. -/
section
set_option linter.unusedVariables false
set_option linter.unusedSimpArgs false
namespace Go.Vs
open Go Go.Proofs
attribute [go_sem] List.all_cons List.all_nil Bool.and_self Bool.and_true Bool.true_and Bool.and_false Bool.false_and decide_true decide_false List.take_succ_cons List.take_zero List.take_nil List.drop_nil List.append_nil List.set_cons_zero List.set_cons_succ ge_iff_le
@[go_sem] theorem pvcells_agg (l : List PV) : PV.cells (.agg l) = l := nr rfl
@[go_sem] theorem pvcells_int (k : IntKind) (n : Int) : PV.cells (.int k n) = [.int k n] := nr rfl
@[go_sem] theorem pvcells_bool (b : Bool) : PV.cells (.bool b) = [.bool b] := nr rfl
@[go_sem] theorem pvcells_sl (r : List (List PV)) (ex : Bool) : PV.cells (.sl r ex) = [.sl r ex] := nr rfl
@[go_sem] theorem pvcells_msl (a b c : Nat) (ex : Bool) : PV.cells (.msl a b c ex) = [.msl a b c ex] := nr rfl
@[go_sem] theorem cell_int (k : IntKind) (n : Int) : PV.cell (.int k n) = true := nr rfl
@[go_sem] theorem cell_bool (b : Bool) : PV.cell (.bool b) = true := nr rfl
@[go_sem] theorem cell_sl (r : List (List PV)) (ex : Bool) : PV.cell (.sl r ex) = true := nr rfl
@[go_sem] theorem cell_msl (a b c : Nat) (ex : Bool) : PV.cell (.msl a b c ex) = true := nr rfl
@[go_sem] theorem refs_undef : PV.refs .undef = [] := nr rfl
@[go_sem] theorem refs_int (k : IntKind) (n : Int) : PV.refs (.int k n) = [] := nr rfl
@[go_sem] theorem refs_bool (b : Bool) : PV.refs (.bool b) = [] := nr rfl
@[go_sem] theorem refs_sl (r : List (List PV)) (ex : Bool) : PV.refs (.sl r ex) = [] := nr rfl
@[go_sem] theorem refs_msl (a b c : Nat) (ex : Bool) : PV.refs (.msl a b c ex) = [a] := nr rfl
@[go_sem] theorem refs_mp (a b c : Nat) : PV.refs (.mp a b c) = [a] := nr rfl
@[go_sem] theorem rowsRefs_nil : rowsRefs [] = [] := nr rfl
@[go_sem] theorem rowsRefs_cons (v : List PV) (r : List (List PV)) : rowsRefs (v :: r) = refsL v ++ rowsRefs r := nr rfl
/-- Does all that is seen lie below a number? -/
def seenBelow (n : Nat) : Env → Bool
  | [] => true
  | (_, v) :: r => (v.refs.all fun i => decide (i < n)) && seenBelow n r
def heldBelow (n : Nat) : Nat → Store → Bool
  | 0, _ => true
  | _, [] => true
  | m + 1, .arr rows _ _ :: r => ((rowsRefs rows).all fun i => decide (i < n)) && heldBelow n m r
  | m + 1, .gone :: r => heldBelow n m r
theorem seenBelow_eq (n : Nat) : ∀ e : Env, (e.all fun (_, v) => v.refs.all fun i => decide (i < n)) = seenBelow n e
  | [] => rfl
  | (_, v) :: r => by simp only [List.all_cons, seenBelow, seenBelow_eq n r]
theorem heldBelow_eq (n : Nat) : ∀ (m : Nat) (S : Store), ((S.take m).all fun | .arr rows _ _ => (rowsRefs rows).all fun i => decide (i < n) | .gone => true) = heldBelow n m S
  | 0, S => by simp [heldBelow]
  | m + 1, [] => by simp [heldBelow]
  | m + 1, .arr rows g f :: r => by simp only [List.take_succ_cons, List.all_cons, heldBelow, heldBelow_eq n m r]
  | m + 1, .gone :: r => by simp only [List.take_succ_cons, List.all_cons, heldBelow, heldBelow_eq n m r, Bool.true_and]
@[go_sem] theorem gc_eq (n : Nat) (k : Nat) (v : PV) (e : Env) (o : Obj) (S : Store) : gc n ((k, v) :: e) (o :: S) = if seenBelow n ((k, v) :: e) = true ∧ heldBelow n n (o :: S) = true then (o :: S).take n else o :: S := by
  rw [← seenBelow_eq, ← heldBelow_eq]
  rfl
@[go_sem] theorem seenBelow_nil (n : Nat) : seenBelow n [] = true := nr rfl
@[go_sem] theorem seenBelow_cons (n k : Nat) (v : PV) (r : Env) : seenBelow n ((k, v) :: r) = ((v.refs.all fun i => decide (i < n)) && seenBelow n r) := nr rfl
@[go_sem] theorem heldBelow_zero (n : Nat) (S : Store) : heldBelow n 0 S = true := nr (by cases S <;> rfl)
@[go_sem] theorem heldBelow_nil (n m : Nat) : heldBelow n m [] = true := nr (by cases m <;> rfl)
@[go_sem] theorem heldBelow_cons (n m : Nat) (rows : List (List PV)) (g : Option (Option Nat)) (f : Bool) (r : Store) : heldBelow n (m + 1) (.arr rows g f :: r) = (((rowsRefs rows).all fun i => decide (i < n)) && heldBelow n m r) := nr rfl
@[go_sem] theorem storeE_eq (ti : TI) (S : Store) (a v : PV) : storeE ti S a v = if ti.known = true then (evStore ti.size S a v).map fun S => { v := .skip, S } else none := nr rfl
@[go_sem] theorem evStore_zero (n : Nat) (rows : List (List PV)) (g : Option (Option Nat)) (S : Store) (i off : Nat) (v : PV) : evStore n (.arr rows g false :: S) (.mp 0 i off) v =
    if i < rows.length ∧ off + n ≤ (rows.getD i []).length ∧ v.cells.length = n ∧ v.cells.all PV.cell = true then some (.arr (rows.set i (splice (rows.getD i []) off v.cells)) g false :: S) else none := nr rfl
@[go_sem] theorem evStore_succ (n : Nat) (o : Obj) (S : Store) (id i off : Nat) (v : PV) : evStore n (o :: S) (.mp (id + 1) i off) v = (evStore n S (.mp id i off) v).map fun S => o :: S := by
  simp only [evStore, List.getElem?_cons_succ]
  cases h : S[id]? with
  | none => rfl
  | some q =>
    cases q with
    | gone => rfl
    | arr rows g f =>
      cases f with
      | true => rfl
      | false =>
        simp only
        split <;> simp
@[go_sem] theorem splice_if (row : List PV) (off : Nat) (cs : List PV) : splice row off cs = if off = 0 ∧ cs.length = row.length then cs else row.take off ++ cs ++ row.drop (off + cs.length) := nr rfl
attribute [go_sem] Nat.le_refl
@[go_sem] theorem buildSlice22 (id n : Nat) (is : List Nat) (rows : List (List PV)) : buildSliceO Try.prog 22 id n is rows = if is = List.range n ∧ rowsOK 1 rows = true ∧ (rows.all fun r => r.all PV.cell) = true ∧ n * 1 ≤ 16777216 then some { v := .msl id 0 n true, new := some (rows, some (some 1)) } else none := by
  have e : (tyi Try.prog 3).zero.isSome = true := by kernel_rfl
  simp [buildSliceO, d22, size3, e]
@[go_sem] theorem rowsOK_nil (n : Nat) : rowsOK n [] = true := nr rfl
@[go_sem] theorem rowsOK_cons (n : Nat) (r : List PV) (l : List (List PV)) : rowsOK n (r :: l) = (r.length == n && rowsOK n l) := nr rfl
@[go_sem] theorem range0 : List.range 0 = [] := nr rfl
attribute [go_sem] beq_self_eq_true
end Go.Vs
end
/- Printed by a program of mine (stage1.py): the functions 35, 43, 44, 45, piece by piece. -/
section
set_option linter.unusedVariables false
set_option linter.unusedSimpArgs false
namespace Go.Vs
open Go Go.Proofs
noncomputable section

/-! ### isochroneref08.Size -/
namespace F35
section
variable (b i n n0 : Nat) (K : KT) (x0 x1 x2 x3 x4 x9 : PV) (e : Env) (S : Store)
end
end F35
/-! ### tree.Size -/
namespace F43
section
variable (b i n n0 : Nat) (K : KT) (x0 x1 x2 x3 x5 x7 x8 x9 x10 : PV) (e : Env) (S : Store)
end
end F43
/-! ### tree.Levels -/
namespace F44
section
variable (b i n n0 : Nat) (K : KT) (x0 x1 x2 x3 x5 x7 x8 x9 x10 : PV) (e : Env) (S : Store)
end
end F44
/-! ### isochroneref08.Levels -/
namespace F45
section
variable (b i n n0 : Nat) (K : KT) (x0 x1 x2 x3 x4 x9 : PV) (e : Env) (S : Store)
end
end F45
end
end Go.Vs
end
/- tree.Size, Levels, and the reference's: what they return. -/
section
set_option linter.unusedVariables false
set_option linter.unusedSimpArgs false
namespace Go.Vs
open Go Go.Proofs
mutual
/-- The number of nodes, as the machine counts. -/
def Node.size : Node → Int
  | .mk _ _ _ _ _ f => Node.sizes 1 f
def Node.sizes : Int → List Node → Int
  | a, [] => a
  | a, n :: r => Node.sizes (IntKind.i64.wrap (a + n.size)) r
end
mutual
/-- The number of levels, as the machine counts. -/
def Node.levels : Node → Int
  | .mk _ _ _ _ _ f => IntKind.i64.wrap (Node.most 0 f + 1)
def Node.most : Int → List Node → Int
  | a, [] => a
  | a, n :: r => Node.most (if a < n.levels then n.levels else a) r
end
theorem maxLen_le : maxLen ≤ 9223372036854775807 := by decide
theorem wrap_succ {i n : Nat} (h : i < n) (hn : n ≤ maxLen) : IntKind.i64.wrap ((i : Int) + 1) = ((i + 1 : Nat) : Int) := by
  have := maxLen_le
  rw [IntKind.wrap_i64]; omega
end Go.Vs
end
/- Printed by a program of mine (stage1.py): the functions 68, 69, 70, 71, 42, 46, 47, piece by piece. -/
section
set_option linter.unusedVariables false
set_option linter.unusedSimpArgs false
namespace Go.Vs
open Go Go.Proofs
noncomputable section

/-! ### tree.less -/
namespace F68
section
variable (b : Nat) (K : KT) (x0 x2 x3 : PV) (e : Env) (S : Store)
end
end F68
/-! ### tree.words -/
namespace F69
section
variable (b i n n0 : Nat) (K : KT) (x0 x1 x4 x5 x10 x21 x32 : PV) (e : Env) (S : Store)
end
end F69
/-! ### isochroneref08.less -/
namespace F70
section
variable (b : Nat) (K : KT) (x0 x1 x4 x7 x10 : PV) (e : Env) (S : Store)
end
end F70
/-! ### isochroneref08.words -/
namespace F71
section
variable (b i n n0 : Nat) (K : KT) (x0 x1 x4 x5 x10 x15 x20 x31 x40 : PV) (e : Env) (S : Store)
end
end F71
/-! ### tree.Compare -/
namespace F42
section
variable (b i n n1 : Nat) (K : KT) (x0 x1 x2 x3 x4 x5 x6 x7 x8 x9 x21 x33 x53 x63 x71 x82 x83 x84 x98 : PV) (e : Env) (S : Store)
end
end F42
/-! ### isochroneref08.Compare -/
namespace F46
section
variable (b i n n0 : Nat) (K : KT) (x0 x1 x2 x3 x4 x5 x6 x7 x8 x9 x10 x17 x23 x28 x35 x38 x47 x57 x67 x73 x88 : PV) (e : Env) (S : Store)
end
end F46
/-! ### tree.Equal -/
namespace F47
section
variable (b : Nat) (K : KT) (x0 x1 x2 x3 x4 : PV) (e : Env) (S : Store)
end
end F47
end
end Go.Vs
end
/- tree.Compare and the reference's: what they return. -/
section
set_option linter.unusedVariables false
set_option linter.unusedSimpArgs false
namespace Go.Vs
open Go Go.Proofs
def cmpB (b : Bool) : Int := if b = true then -1 else 1
def cmpI (a b : Int) : Int := if a < b then -1 else if b < a then 1 else 0
def seqI (x y : Int) : Int := if x ≠ 0 then x else y
def cmpStr (a b : ByteArray) : Int := if a.toList ≠ b.toList then cmpB (Op.bytesLess a.toList b.toList) else 0
def cmpNeg (a b : Bool) : Int := if a ≠ b then cmpB b else 0
/-- Words below place m, from the last. -/
def wordsTo (a b : List Int) : Nat → Int
  | 0 => 0
  | m + 1 => seqI (cmpI (a.getD m 0) (b.getD m 0)) (wordsTo a b m)
def cmpWords (a b : List Int) : Int := seqI (cmpI a.length b.length) (wordsTo a b a.length)
mutual
def Node.cmp : Node → Node → Int
  | .mk a b c d e f, m => seqI (cmpI a m.op) (seqI (cmpStr b m.name) (seqI (cmpNeg c m.neg) (seqI (cmpWords d m.num) (seqI (cmpWords e m.den) (seqI (cmpI f.length m.kids.length) (Node.cmps f m.kids))))))
def Node.cmps : List Node → List Node → Int
  | [], _ => 0
  | _ :: _, [] => 0
  | n :: r, m :: s => seqI (n.cmp m) (Node.cmps r s)
end
theorem Node.ok.num {n : Node} (h : n.ok) : n.num.length ≤ maxLen := by cases n; exact h.2.2.1
theorem Node.ok.den {n : Node} (h : n.ok) : n.den.length ≤ maxLen := by cases n; exact h.2.2.2.1
theorem Node.ok.len {n : Node} (h : n.ok) : n.kids.length ≤ maxLen := by cases n; exact h.2.2.2.2.2.2.1
theorem Node.ok.kids {n : Node} (h : n.ok) : ∀ k ∈ n.kids, k.ok := by cases n; exact Node.oks_iff.1 h.2.2.2.2.2.2.2
end Go.Vs
end
/- Printed by a program of mine (stage1.py): the functions 97, 96, 94, 84, 85, 86, 63, 36, piece by piece. -/
section
set_option linter.unusedVariables false
set_option linter.unusedSimpArgs false
namespace Go.Vs
open Go Go.Proofs
noncomputable section

/-! ### num.valid -/
namespace F97
section
variable (b : Nat) (K : KT) (x0 x1 x4 : PV) (e : Env) (S : Store)
end
end F97
/-! ### num.Valid -/
namespace F96
section
variable (b : Nat) (K : KT) (x0 x1 x2 x4 x5 x23 x27 x54 : PV) (e : Env) (S : Store)
end
end F96
/-! ### rat.Valid -/
namespace F94
section
variable (b : Nat) (K : KT) (x0 x1 x2 : PV) (e : Env) (S : Store)
end
end F94
/-! ### tree.natural -/
namespace F84
section
variable (b : Nat) (K : KT) (x0 x1 x2 : PV) (e : Env) (S : Store)
end
end F84
/-! ### tree.shape -/
namespace F85
section
variable (b : Nat) (K : KT) (x0 x2 x3 x4 x5 x10 x19 x27 x28 x32 x37 x50 x56 x60 x64 x69 : PV) (e : Env) (S : Store)
end
end F85
/-! ### tree.differentiable -/
namespace F86
section
variable (b i n n1 : Nat) (K : KT) (x0 x1 x2 x4 x6 x7 x18 x22 x23 x24 x25 x30 : PV) (e : Env) (S : Store)
end
end F86
/-! ### tree.within -/
namespace F63
section
variable (b i n n0 : Nat) (K : KT) (x0 x1 x2 x3 x6 x8 x21 x23 x24 x25 x26 x34 : PV) (e : Env) (S : Store)
end
end F63
/-! ### tree.Check -/
namespace F36
section
variable (b : Nat) (K : KT) (x0 x1 x2 x4 x5 x11 x14 x19 x23 : PV) (e : Env) (S : Store)
end
end F36
end
end Go.Vs
end
/- Printed by a program of mine (stage1.py): the functions 64, piece by piece. -/
section
set_option linter.unusedVariables false
set_option linter.unusedSimpArgs false
namespace Go.Vs
open Go Go.Proofs
noncomputable section

/-! ### tree.formed -/
namespace F64
section
variable (b i n n1 n3 n5 n7 : Nat) (K : KT) (x0 x1 x2 x3 x4 x5 x6 x7 x8 x9 x11 x12 x13 x14 x17 x21 x38 x70 x72 x73 x85 x88 x89 x90 x95 x105 x112 x133 x137 x138 x139 x140 x152 x161 x172 x173 x180 x182 x199 x206 x208 x209 x210 x211 x228 x232 x251 : PV) (e : Env) (S : Store)
end
end F64
end
end Go.Vs
end
/- tree.natural, shape, differentiable: what they return. -/
section
set_option linter.unusedVariables false
set_option linter.unusedSimpArgs false
namespace Go.Vs
open Go Go.Proofs
/-- No zero at the end. -/
def lastOK (l : List Int) : Bool := decide (l.length = 0) || decide (l.getD (l.length - 1) 0 ≠ 0)
/-- Is a number a natural one of a tree? -/
def natOK (neg : Bool) (num den : List Int) : Bool := !neg && (decide (den.length = 1) && (decide (den.getD 0 0 = 1) && (decide (num.length ≤ 20) && lastOK num)))
/-- Operators of formulas that a differential may have. -/
def diffLeaf (o : Int) : Bool := decide (o = 20) || decide (o = 21) || decide (22 ≤ o ∧ o ≤ 27) || decide (o = 37) || decide (o = 38)
mutual
def Node.diff : Node → Bool
  | .mk o _ _ _ _ f => diffLeaf o || ((decide (o = 29) || decide (o = 30)) && Node.diffs f)
def Node.diffs : List Node → Bool
  | [] => true
  | n :: r => n.diff && Node.diffs r
end
end Go.Vs
end
/- tree.within: what it returns, and what it leaves. -/
section
set_option linter.unusedVariables false
set_option linter.unusedSimpArgs false
namespace Go.Vs
open Go Go.Proofs
mutual
def Node.within : Node → Int → Int → Bool × Int
  | .mk _ _ _ _ _ f, left, lv => if left - 1 < 0 ∨ lv ≤ 0 then (false, left - 1) else Node.withins f (left - 1) (lv - 1)
def Node.withins : List Node → Int → Int → Bool × Int
  | [], left, _ => (true, left)
  | n :: r, left, lv => if (n.within left lv).1 = true then Node.withins r (n.within left lv).2 lv else (false, (n.within left lv).2)
end
theorem heldBelow_mono {n n' : Nat} (h : n ≤ n') : ∀ (m : Nat) (S : Store), heldBelow n m S = true → heldBelow n' m S = true
  | 0, S, _ => by simp [heldBelow]
  | m + 1, [], _ => by simp [heldBelow]
  | m + 1, .arr rows g f :: r, hh => by
    simp only [heldBelow, Bool.and_eq_true, List.all_eq_true, decide_eq_true_eq] at hh ⊢
    exact ⟨fun i hi => Nat.lt_of_lt_of_le (hh.1 i hi) h, heldBelow_mono h m r hh.2⟩
  | m + 1, .gone :: r, hh => by
    simp only [heldBelow] at hh ⊢
    exact heldBelow_mono h m r hh
theorem heldBelow_append (n : Nat) : ∀ (S U : Store) (k : Nat), heldBelow n (S.length + k) (S ++ U) = (heldBelow n S.length S && heldBelow n k U)
  | [], U, k => by simp [heldBelow]
  | .arr rows g f :: S, U, k => by
    have e : (Obj.arr rows g f :: S).length + k = (S.length + k) + 1 := by simp only [List.length_cons]; omega
    rw [e]
    simp only [List.cons_append, heldBelow, List.length_cons, heldBelow_append n S U k, Bool.and_assoc]
  | .gone :: S, U, k => by
    have e : (Obj.gone :: S).length + k = (S.length + k) + 1 := by simp only [List.length_cons]; omega
    rw [e]
    simp only [List.cons_append, heldBelow, List.length_cons, heldBelow_append n S U k]
attribute [go_sem] List.append_assoc List.length_append
theorem callE_eq {b : Nat} {h : Hint} {S : Store} {f : FuncId} {l : List PV} {v : PV} {S' : Store} (hr : hints.refs f = true) (hc : callRL Try.prog hints f l S = some (v, S')) (hl : S.length ≤ S'.length) : callE (ctxL Try.prog hints b h) S f l = some { v, S := S' } := by
  have e1 : (ctxL Try.prog hints b h).H.refs f = true := hr
  have e2 : (ctxL Try.prog hints b h).cr f l S = some (v, S') := hc
  unfold callE
  rw [if_pos e1, e2]
  simp only [Option.bind_some]
  rw [if_pos hl]
/-- All that is held lies below. -/
def Held (ra : List (List PV)) (T : Store) : Prop := ((rowsRefs ra).all fun i => decide (i < T.length + 2)) = true ∧ heldBelow (T.length + 2) T.length T = true
theorem Held.push {ra : List (List PV)} {T : Store} (h : Held ra T) {row : List PV} (hr : refsL row = []) : Held ra (T ++ [.arr [row] none false]) := by
  refine ⟨?_, ?_⟩
  · have h1 := h.1
    simp only [List.all_eq_true, decide_eq_true_eq, List.length_append, List.length_cons, List.length_nil] at h1 ⊢
    intro i hi
    have := h1 i hi
    omega
  · have e := heldBelow_append ((T ++ [Obj.arr [row] none false]).length + 2) T [Obj.arr [row] none false] 1
    have e2 : (T ++ [Obj.arr [row] none false]).length = T.length + 1 := by simp
    rw [e2] at e ⊢
    rw [e, heldBelow_mono (by omega) _ _ h.2]
    simp [heldBelow, rowsRefs, hr]
/-! ### The true numbers of nodes and levels -/
mutual
def Node.count : Node → Nat
  | .mk _ _ _ _ _ f => Node.counts f + 1
def Node.counts : List Node → Nat
  | [] => 0
  | n :: r => n.count + Node.counts r
end
mutual
def Node.depth : Node → Nat
  | .mk _ _ _ _ _ f => Node.depths f + 1
def Node.depths : List Node → Nat
  | [] => 0
  | n :: r => max n.depth (Node.depths r)
end
end Go.Vs
end
/- Trees as arguments. -/
section
set_option linter.unusedVariables false
set_option linter.unusedSimpArgs false
namespace Go.Vs
open Go Go.Proofs
/-- The types of a struct's fields. -/
def fieldTypes (P : Program) (t : TypeId) : Option (List TypeId) := match P.underlying t with
  | some (.struct fs) => some (fs.toList.map Field.type)
  | _ => none
theorem all2_map {α β γ : Type} {R : γ → β → Prop} {f : α → γ} : ∀ {x : List α} {y : List β}, All2 (fun a b => R (f a) b) x y → All2 R (x.map f) y
  | _, _, .nil => .nil
  | _, _, .cons h t => .cons h (all2_map t)
theorem Dt.struct {P : Program} {k : Nat} {t : TypeId} {ts : List TypeId} {pvs : List PV} (hf : fieldTypes P t = some ts) (h : Dt P k t pvs) : ∃ k', k = k' + 1 ∧ ∃ pss : List (List PV), pvs = pss.flatten ∧ All2 (fun t ps => Dt P k' t ps) ts pss := by
  cases k with
  | zero => simp only [Dt] at h
  | succ k =>
    unfold fieldTypes at hf
    split at hf
    · rename_i fs hu
      simp only [Dt, hu] at h
      obtain ⟨pss, h1, h2⟩ := h
      simp only [Option.some.injEq] at hf
      subst hf
      exact ⟨k, rfl, pss, h1, all2_map (R := fun t ps => Dt P k t ps) h2⟩
    · cases hf
theorem Dt.slice {P : Program} {k : Nat} {t e : TypeId} {pvs : List PV} (hu : P.underlying t = some (.slice e)) (h : Dt P k t pvs) : ∃ k', k = k' + 1 ∧ ∃ rows, pvs = [.sl rows false] ∧ rows.length ≤ maxLen ∧ ∀ r ∈ rows, Dt P k' e r := by
  cases k with
  | zero => simp only [Dt] at h
  | succ k =>
    simp only [Dt, hu] at h
    exact ⟨k, rfl, h⟩
theorem Dt.int {P : Program} {k : Nat} {t : TypeId} {kd : IntKind} {pvs : List PV} (hu : P.underlying t = some (.int kd)) (h : Dt P k t pvs) : ∃ n, (Lit.int kd n).wf = true ∧ pvs = [.int kd n] := by
  cases k with
  | zero => simp only [Dt] at h
  | succ k => simpa only [Dt, hu] using h
theorem Dt.bool {P : Program} {k : Nat} {t : TypeId} {pvs : List PV} (hu : P.underlying t = some .bool) (h : Dt P k t pvs) : ∃ b, pvs = [.bool b] := by
  cases k with
  | zero => simp only [Dt] at h
  | succ k => simpa only [Dt, hu] using h
theorem Dt.str {P : Program} {k : Nat} {t : TypeId} {pvs : List PV} (hu : P.underlying t = some .string) (h : Dt P k t pvs) : ∃ s : ByteArray, s.size ≤ maxLen ∧ pvs = [.str s] := by
  cases k with
  | zero => simp only [Dt] at h
  | succ k => simpa only [Dt, hu] using h
theorem All2.inv {α β : Type} {R : α → β → Prop} {a : α} {x : List α} {y : List β} (h : All2 R (a :: x) y) : ∃ b z, y = b :: z ∧ R a b ∧ All2 R x z := by
  cases h with
  | cons h t => exact ⟨_, _, rfl, h, t⟩
theorem All2.inv0 {α β : Type} {R : α → β → Prop} {y : List β} (h : All2 R [] y) : y = [] := by cases h; rfl
theorem rows_choose {α : Type} {P : List PV → Prop} {Q : α → Prop} {f : α → List PV} (h : ∀ r, P r → ∃ a, Q a ∧ r = f a) : ∀ rows : List (List PV), (∀ r ∈ rows, P r) → ∃ l : List α, (∀ a ∈ l, Q a) ∧ rows = l.map f
  | [], _ => ⟨[], by simp, rfl⟩
  | r :: rows, hr => by
    obtain ⟨a, h1, h2⟩ := h r (hr r (by simp))
    obtain ⟨l, h3, h4⟩ := rows_choose h rows fun x hx => hr x (by simp [hx])
    exact ⟨a :: l, by simpa using ⟨h1, h3⟩, by simp [h2, h4]⟩
theorem und76 : Try.prog.underlying 76 = some (.int .u32) := by kernel_rfl
theorem und49 : Try.prog.underlying 49 = some (.slice 76) := by kernel_rfl
theorem und52 : Try.prog.underlying 52 = some (.slice 54) := by kernel_rfl
theorem und22 : Try.prog.underlying 22 = some (.slice 3) := by kernel_rfl
theorem ft54 : fieldTypes Try.prog 54 = some [3, 9, 51, 52] := by kernel_rfl
theorem ft51 : fieldTypes Try.prog 51 = some [4, 49, 49] := by kernel_rfl
theorem wf_i64 {n : Int} (h : (Lit.int .i64 n).wf = true) : -9223372036854775808 ≤ n ∧ n ≤ 9223372036854775807 := by
  simpa [Lit.wf, IntKind.min, IntKind.max, IntKind.signed, IntKind.bits] using h
theorem wf_u32 {n : Int} (h : (Lit.int .u32 n).wf = true) : 0 ≤ n ∧ n ≤ 4294967295 := by
  simpa [Lit.wf, IntKind.min, IntKind.max, IntKind.signed, IntKind.bits] using h
theorem Dt.words {k : Nat} {pvs : List PV} (h : Dt Try.prog k 49 pvs) : ∃ l : List Int, l.length ≤ maxLen ∧ (∀ w ∈ l, 0 ≤ w ∧ w ≤ 4294967295) ∧ pvs = [.sl (wordRows l) false] := by
  obtain ⟨k', rfl, rows, rfl, h1, h2⟩ := h.slice und49
  obtain ⟨l, h3, h4⟩ := rows_choose (Q := fun w => 0 ≤ w ∧ w ≤ 4294967295) (f := fun w : Int => [.int .u32 w]) (fun r hr => by
    obtain ⟨n, h5, h6⟩ := Dt.int und76 hr
    exact ⟨n, wf_u32 h5, h6⟩) rows h2
  subst h4
  exact ⟨l, by simpa using h1, h3, rfl⟩
theorem Dt.node : ∀ (k : Nat) {pvs : List PV}, Dt Try.prog k 54 pvs → ∃ n : Node, n.ok ∧ pvs = n.cells := by
  intro k
  induction k using Nat.strongRecOn with
  | ind k ih =>
    intro pvs h
    obtain ⟨k1, rfl, pss, rfl, s0⟩ := h.struct ft54
    obtain ⟨p1, z1, rfl, h1, s1⟩ := s0.inv
    obtain ⟨p2, z2, rfl, h2, s2⟩ := s1.inv
    obtain ⟨p3, z3, rfl, h3, s3⟩ := s2.inv
    obtain ⟨p4, z4, rfl, h4, s4⟩ := s3.inv
    obtain rfl := s4.inv0
    obtain ⟨a, ha, rfl⟩ := h1.int und3
    obtain ⟨b, hb, rfl⟩ := h2.str und9
    obtain ⟨k2, rfl, qss, rfl, t0⟩ := h3.struct ft51
    obtain ⟨q1, y1, rfl, g1, t1⟩ := t0.inv
    obtain ⟨q2, y2, rfl, g2, t2⟩ := t1.inv
    obtain ⟨q3, y3, rfl, g3, t3⟩ := t2.inv
    obtain rfl := t3.inv0
    obtain ⟨c, rfl⟩ := g1.bool und4
    obtain ⟨d, hd, hd', rfl⟩ := g2.words
    obtain ⟨e, he, he', rfl⟩ := g3.words
    obtain ⟨k3, hk3, rows, rfl, h5, h6⟩ := h4.slice und52
    obtain ⟨f, h7, rfl⟩ := rows_choose (Q := Node.ok) (f := Node.cells) (fun r hr => ih k3 (by omega) hr) rows h6
    refine ⟨.mk a b c d e f, ⟨wf_i64 ha, hb, hd, he, hd', he', by simpa using h5, Node.oks_iff.2 h7⟩, ?_⟩
    simp [Node.cells, Node.rows_eq]
theorem Arg.node {k : Nat} {pv : PV} (h : Arg Try.prog k 54 pv) : ∃ n : Node, n.ok ∧ pv = .agg n.cells := by
  have hf := ft54
  unfold fieldTypes at hf
  split at hf
  · rename_i fs hu
    simp only [Arg, hu] at h
    obtain ⟨cells, rfl, h⟩ := h
    obtain ⟨n, h1, h2⟩ := Dt.node k h
    exact ⟨n, h1, by rw [h2]⟩
  · cases hf
/-- A slice of ints, as an argument. -/
def intRows (l : List Int) : List (List PV) := l.map fun w => [.int .i64 w]
theorem Arg.ints {k : Nat} {pv : PV} (h : Arg Try.prog k 22 pv) : ∃ l : List Int, l.length ≤ maxLen ∧ (∀ w ∈ l, -9223372036854775808 ≤ w ∧ w ≤ 9223372036854775807) ∧ pv = .sl (intRows l) false := by
  simp only [Arg, und22] at h
  obtain ⟨k', rfl, rows, h0, h1, h2⟩ := h.slice und22
  obtain ⟨l, h3, rfl⟩ := rows_choose (Q := fun w => -9223372036854775808 ≤ w ∧ w ≤ 9223372036854775807) (f := fun w : Int => [.int .i64 w]) (fun r hr => by
    obtain ⟨n, h5, h6⟩ := Dt.int und3 hr
    exact ⟨n, wf_i64 h5, h6⟩) rows h2
  exact ⟨l, by simpa using h1, h3, by simpa [intRows] using h0⟩
end Go.Vs
end
/- Rules for slices of ints, places, appends to known arrays. -/
section
set_option linter.unusedVariables false
set_option linter.unusedSimpArgs false
namespace Go.Vs
open Go Go.Proofs
@[go_sem] theorem intRows_length (l : List Int) : (intRows l).length = l.length := nr (by simp [intRows])
@[go_sem] theorem intRows_refs : ∀ l : List Int, rowsRefs (intRows l) = []
  | [] => rfl
  | a :: r => by
    have := intRows_refs r
    simp only [intRows, List.map_cons, rowsRefs_cons] at this ⊢
    rw [this]; rfl
@[go_sem] theorem intRows_nil : intRows [] = [] := nr rfl
theorem intRows_append (a b : List Int) : intRows (a ++ b) = intRows a ++ intRows b := by simp [intRows]
@[go_sem] theorem intRows_ok : ∀ l : List Int, rowsOK 1 (intRows l) = true
  | [] => rfl
  | a :: r => by
    have := intRows_ok r
    simp only [intRows, List.map_cons, rowsOK_cons] at this ⊢
    rw [this]; rfl
@[go_sem] theorem idx22 (S : Store) (l : List Int) (ex : Bool) (i : Int) : indexAddrO Try.prog 22 S (.sl (intRows l) ex) (.int .i64 i) = if 0 ≤ i ∧ i < l.length then some (.cp [.int .i64 (l.getD i.toNat 0)]) else none := by
  have e1 : elemTy (tyi Try.prog 22) = 3 := by simp [elemTy, d22]
  have e2 : isSlice (tyi Try.prog 22) = true := by simp [isSlice, d22]
  simp only [indexAddrO, e1, e2, known3, size3, and_self, if_true, evIndexAddr, intRows_length]
  split
  · rename_i h
    have hl : i.toNat < l.length := by omega
    have e3 : (intRows l).getD i.toNat [] = [.int .i64 (l.getD i.toNat 0)] := by
      simp [intRows, List.getD_eq_getElem?_getD, hl]
    rw [e3]
    rfl
  · rfl
@[go_sem] theorem len22m (i o l : Nat) (ex : Bool) : lenO (tyi Try.prog 22) (.msl i o l ex) = some (.int .i64 l) := lenO_msl _ d22 i o l ex
/-! ### Places -/
/-! ### Appends -/
theorem append_known {b bytes esz : Nat} {S : Store} {id len : Nat} {rows new : List (List PV)} {g : Option Nat} {ex : Bool} {y : PV} (hS : S[id]? = some (.arr rows (some g) false)) (hy : rowsIn S y = some new) (hb : b ≤ id)
    (hl : len = rows.length) (hg : g = none ∨ g = some esz) (h1 : rowsOK esz rows = true) (h2 : rowsOK esz new = true) (h3 : (rows.length + new.length) * bytes ≤ 140737488355328) (h4 : rows.length + new.length ≤ 9223372036854775807)
    (h5 : (rowsRefs rows ++ rowsRefs new).contains id = false) : evAppend b bytes esz S (.msl id 0 len ex) y = some { v := .msl id 0 (rows.length + new.length) false, S := (S.map (killObj [id])).set id (.arr (rows ++ new) (some (some esz)) false), kill := [id] } := by
  simp only [evAppend, if_pos hb, evAppend1, hS, hy, Option.bind_some]
  rw [if_pos ⟨hb, hl, hg, h1, h2, h3, h4, h5⟩]
@[go_sem] theorem appendE22 (b : Nat) (S : Store) (id o len : Nat) (y : PV) : appendE Try.prog b 22 22 S (.msl id o len false) y = evAppend b 8 1 S (.msl id o len false) y := by
  have e1 : zeroOK (tyi Try.prog 3) = true := by kernel_rfl
  have e2 : (tyi Try.prog 3).bytes = 8 := by kernel_rfl
  simp [appendE, exact, d22, e1, e2, size3]
@[go_sem] theorem killE_cons (i : Nat) (e : Env) : killE [i] e = e.map fun (t, v) => (t, kill1 [i] v) := nr rfl
@[go_sem] theorem kill1_eq (ids : List Nat) (v : PV) : kill1 ids v = if (v.refs.any fun i => ids.contains i) = true then .undef else v := nr rfl
@[go_sem] theorem killObj_arr (ids : List Nat) (rows : List (List PV)) (g : Option (Option Nat)) (f : Bool) : killObj ids (.arr rows g f) = .arr (killRows ids rows) g f := nr rfl
@[go_sem] theorem killRows_eq (ids : List Nat) (rows : List (List PV)) : killRows ids rows = if ((rowsRefs rows).any fun i => ids.contains i) = true then rows.map fun r => r.map (kill1 ids) else rows := nr rfl
attribute [go_sem] List.map_cons List.map_nil List.any_cons List.any_nil Bool.or_false Bool.false_or Bool.or_self List.contains_cons List.contains_nil
attribute [go_sem] List.flatMap_cons List.flatMap_nil
@[go_sem] theorem rowsIn_msl (S : Store) (id off len : Nat) (ex : Bool) : rowsIn S (.msl id off len ex) = (rowsAt S id).bind fun rows => if off + len ≤ rows.length then some ((rows.drop off).take len) else none := nr rfl
theorem mapO_all {α β : Type} {f : α → Option β} {g : α → β} : ∀ {l : List α}, (∀ a ∈ l, f a = some (g a)) → mapO f l = some (l.map g)
  | [], _ => rfl
  | a :: r, h => by simp [mapO, h a (by simp), mapO_all (l := r) fun x hx => h x (by simp [hx])]
end Go.Vs
end
/- Rules for stores with a part that isn't known; appends to arrays of trees and of words. -/
section
set_option linter.unusedVariables false
set_option linter.unusedSimpArgs false
namespace Go.Vs
open Go Go.Proofs
/-- Holds no array, and no frozen flag matters: rows without references. -/
def Quiet (T : Store) : Prop := ∀ o ∈ T, ∃ rows g f, o = .arr rows g f ∧ rowsRefs rows = []
theorem Quiet.nil : Quiet [] := by intro o h; cases h
theorem Quiet.cons {rows : List (List PV)} {g : Option (Option Nat)} {f : Bool} {T : Store} (h : rowsRefs rows = []) (hT : Quiet T) : Quiet (.arr rows g f :: T) := by
  intro o ho
  rcases List.mem_cons.1 ho with rfl | ho
  · exact ⟨_, _, _, rfl, h⟩
  · exact hT o ho
theorem Quiet.tail {o : Obj} {T : Store} (hT : Quiet (o :: T)) : Quiet T := fun x hx => hT x (by simp [hx])
theorem Quiet.append {T U : Store} (hT : Quiet T) (hU : Quiet U) : Quiet (T ++ U) := fun o ho => by
  rcases List.mem_append.1 ho with h | h
  · exact hT o h
  · exact hU o h
theorem Quiet.kill : ∀ {T : Store}, Quiet T → ∀ ids, T.map (killObj ids) = T
  | [], _, _ => rfl
  | o :: T, h, ids => by
    obtain ⟨rows, g, f, rfl, hr⟩ := h o (by simp)
    rw [List.map_cons, h.tail.kill, killObj_arr, killRows_eq, hr]
    rfl
theorem Quiet.held : ∀ {T : Store}, Quiet T → ∀ n m, heldBelow n m T = true
  | _, _, _, 0 => by simp [heldBelow]
  | [], _, _, m + 1 => rfl
  | o :: T, h, n, m + 1 => by
    obtain ⟨rows, g, f, rfl, hr⟩ := h o (by simp)
    rw [heldBelow_cons, hr, h.tail.held]
    rfl
attribute [go_sem] List.map_append
/-! ### Structs from parts -/
@[go_sem] theorem zeroNode_part54 : part (tyi Try.prog 54) zeroNode = some (.agg zeroNode) := by simp only [zeroNode, part54]
/-! ### Appends -/
end Go.Vs
end
