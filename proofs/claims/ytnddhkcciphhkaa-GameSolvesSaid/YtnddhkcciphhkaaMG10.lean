/- A law's arguments, by their types. -/

import Derived.Test.YtnddhkcciphhkaaMG7
import Derived.Test.YtnddhkcciphhkaaMG9
section
set_option linter.unusedVariables false
namespace Go.Vs
open Go Go.Proofs
theorem und3 : Try.prog.underlying 3 = some (.int .i64) := by kernel_rfl
theorem und4 : Try.prog.underlying 4 = some .bool := by kernel_rfl
section
variable {P : Program} {k : Nat} {t : TypeId} {pv : PV} {pvs : List PV}
theorem Arg.str (hu : P.underlying t = some .string) (h : Arg P k t pv) : ∃ s : ByteArray, s.size ≤ maxLen ∧ pv = .str s := by
  simp only [Arg, hu] at h
  cases k with
  | zero => simp only [Dt] at h
  | succ k =>
    simp only [Dt, hu] at h
    obtain ⟨s, h1, h2⟩ := h
    exact ⟨s, h1, by simpa using h2⟩
theorem Arg.int {kd : IntKind} (hu : P.underlying t = some (.int kd)) (h : Arg P k t pv) : ∃ n, (Lit.int kd n).wf = true ∧ pv = .int kd n := by
  simp only [Arg, hu] at h
  cases k with
  | zero => simp only [Dt] at h
  | succ k =>
    simp only [Dt, hu] at h
    obtain ⟨s, h1, h2⟩ := h
    exact ⟨s, h1, by simpa using h2⟩
theorem Args.nil_inv (h : Args P [] pvs) : pvs = [] := by cases h; rfl
theorem Args.cons_inv {ts : List TypeId} (h : Args P (t :: ts) pvs) : ∃ pv r k, pvs = pv :: r ∧ Arg P k t pv ∧ Args P ts r := by
  cases h with
  | cons h r =>
    obtain ⟨k, h⟩ := h
    exact ⟨_, _, k, rfl, h, r⟩
end
end Go.Vs
end
/- Trees as data, and what operations do with them. -/
section
set_option linter.unusedVariables false
set_option linter.unusedSimpArgs false
namespace Go.Vs
open Go Go.Proofs

/-! ### Types -/
@[go_sem] theorem d54 : (tyi Try.prog 54).d = .struct [(0, 1, false), (1, 1, false), (2, 3, true), (5, 1, false)] := nr (by kernel_rfl)
@[go_sem] theorem d51 : (tyi Try.prog 51).d = .struct [(0, 1, false), (1, 1, false), (2, 1, false)] := nr (by kernel_rfl)
@[go_sem] theorem d52 : (tyi Try.prog 52).d = .slice 54 := nr (by kernel_rfl)
@[go_sem] theorem d49 : (tyi Try.prog 49).d = .slice 76 := nr (by kernel_rfl)
@[go_sem] theorem d22 : (tyi Try.prog 22).d = .slice 3 := nr (by kernel_rfl)
@[go_sem] theorem d23 : (tyi Try.prog 23).d = .slice 22 := nr (by kernel_rfl)
@[go_sem] theorem d3 : (tyi Try.prog 3).d = .int .i64 := nr (by kernel_rfl)
@[go_sem] theorem d76 : (tyi Try.prog 76).d = .int .u32 := nr (by kernel_rfl)
@[go_sem] theorem size54 : (tyi Try.prog 54).size = 6 := nr (by kernel_rfl)
@[go_sem] theorem size51 : (tyi Try.prog 51).size = 3 := nr (by kernel_rfl)
@[go_sem] theorem size22 : (tyi Try.prog 22).size = 1 := nr (by kernel_rfl)
@[go_sem] theorem size3 : (tyi Try.prog 3).size = 1 := nr (by kernel_rfl)
@[go_sem] theorem size4 : (tyi Try.prog 4).size = 1 := nr (by kernel_rfl)
@[go_sem] theorem known54 : (tyi Try.prog 54).known = true := nr (by kernel_rfl)
@[go_sem] theorem known51 : (tyi Try.prog 51).known = true := nr (by kernel_rfl)
@[go_sem] theorem known52 : (tyi Try.prog 52).known = true := nr (by kernel_rfl)
@[go_sem] theorem known49 : (tyi Try.prog 49).known = true := nr (by kernel_rfl)
@[go_sem] theorem known22 : (tyi Try.prog 22).known = true := nr (by kernel_rfl)
@[go_sem] theorem known3 : (tyi Try.prog 3).known = true := nr (by kernel_rfl)
@[go_sem] theorem known4 : (tyi Try.prog 4).known = true := nr (by kernel_rfl)
@[go_sem] theorem known9 : (tyi Try.prog 9).known = true := nr (by kernel_rfl)
@[go_sem] theorem known76 : (tyi Try.prog 76).known = true := nr (by kernel_rfl)
@[go_sem] theorem part3 (v : PV) (r : List PV) : part (tyi Try.prog 3) (v :: r) = some v := by simp [part, known3, TI.isAgg, d3]
@[go_sem] theorem part4 (v : PV) (r : List PV) : part (tyi Try.prog 4) (v :: r) = some v := by simp [part, known4, TI.isAgg, tyi4]
@[go_sem] theorem part9 (v : PV) (r : List PV) : part (tyi Try.prog 9) (v :: r) = some v := by simp [part, known9, TI.isAgg, tyi9]
@[go_sem] theorem part76 (v : PV) (r : List PV) : part (tyi Try.prog 76) (v :: r) = some v := by simp [part, known76, TI.isAgg, d76]
@[go_sem] theorem part49 (v : PV) (r : List PV) : part (tyi Try.prog 49) (v :: r) = some v := by simp [part, known49, TI.isAgg, d49]
@[go_sem] theorem part52 (v : PV) (r : List PV) : part (tyi Try.prog 52) (v :: r) = some v := by simp [part, known52, TI.isAgg, d52]
@[go_sem] theorem part22 (v : PV) (r : List PV) : part (tyi Try.prog 22) (v :: r) = some v := by simp [part, known22, TI.isAgg, d22]
@[go_sem] theorem part51 (a b c : PV) (r : List PV) : part (tyi Try.prog 51) (a :: b :: c :: r) = some (.agg [a, b, c]) := by simp [part, known51, TI.isAgg, d51, size51]
@[go_sem] theorem part54 (a b c d e f : PV) (r : List PV) : part (tyi Try.prog 54) (a :: b :: c :: d :: e :: f :: r) = some (.agg [a, b, c, d, e, f]) := by simp [part, known54, TI.isAgg, d54, size54]

/-! ### Memory -/
@[go_sem] theorem evLoad_cp (ti : TI) (S : Store) (r : List PV) : evLoad ti S (.cp r) = part ti r := nr rfl
@[go_sem] theorem evLoad_mp (ti : TI) (S : Store) (id i off : Nat) : evLoad ti S (.mp id i off) = (rowsAt S id).bind fun rows => if i < rows.length then part ti ((rows.getD i []).drop off) else none := nr rfl
@[go_sem] theorem rowsAt_zero (rows : List (List PV)) (g : Option (Option Nat)) (f : Bool) (S : Store) : rowsAt (.arr rows g f :: S) 0 = some rows := nr rfl
attribute [go_sem] List.nil_append List.cons_append List.length_cons List.length_nil List.getD_cons_zero List.drop_zero List.drop_succ_cons Nat.zero_add Nat.add_zero Nat.lt_add_one
@[go_sem] theorem len22 (r : List (List PV)) (ex : Bool) : lenO (tyi Try.prog 22) (.sl r ex) = some (.int .i64 r.length) := lenO_sl _ d22 r ex
@[go_sem] theorem len23 (r : List (List PV)) (ex : Bool) : lenO (tyi Try.prog 23) (.sl r ex) = some (.int .i64 r.length) := lenO_sl _ d23 r ex

/-! ### Trees -/
inductive Node where
  | mk (op : Int) (name : ByteArray) (neg : Bool) (num den : List Int) (kids : List Node)
namespace Node
def op : Node → Int | mk a _ _ _ _ _ => a
def name : Node → ByteArray | mk _ a _ _ _ _ => a
def neg : Node → Bool | mk _ _ a _ _ _ => a
def num : Node → List Int | mk _ _ _ a _ _ => a
def den : Node → List Int | mk _ _ _ _ a _ => a
def kids : Node → List Node | mk _ _ _ _ _ a => a
instance : Inhabited Node := ⟨mk 0 ByteArray.empty false [] [] []⟩
end Node
/-- Words, as rows of memory. -/
def wordRows (l : List Int) : List (List PV) := l.map fun w => [.int .u32 w]
mutual
def Node.cells : Node → List PV
  | .mk a b c d e f => [.int .i64 a, .str b, .bool c, .sl (wordRows d) false, .sl (wordRows e) false, .sl (Node.rows f) false]
def Node.rows : List Node → List (List PV)
  | [] => []
  | n :: r => n.cells :: Node.rows r
end
mutual
/-- What a tree in memory is, besides: numbers in their bounds, lists in theirs. -/
def Node.ok : Node → Prop
  | .mk a b c d e f => (-9223372036854775808 ≤ a ∧ a ≤ 9223372036854775807) ∧ b.size ≤ maxLen ∧ d.length ≤ maxLen ∧ e.length ≤ maxLen ∧ (∀ w ∈ d, 0 ≤ w ∧ w ≤ 4294967295) ∧ (∀ w ∈ e, 0 ≤ w ∧ w ≤ 4294967295) ∧ f.length ≤ maxLen ∧ Node.oks f
def Node.oks : List Node → Prop
  | [] => True
  | n :: r => n.ok ∧ Node.oks r
end
theorem Node.oks_iff : ∀ {l : List Node}, Node.oks l ↔ ∀ n ∈ l, n.ok
  | [] => by simp [Node.oks]
  | n :: r => by simp [Node.oks, Node.oks_iff (l := r)]
@[go_sem] theorem Node.cells_length (n : Node) : n.cells.length = 6 := nr (by cases n; rfl)
@[go_sem] theorem Node.drop1 (n : Node) : n.cells.drop 1 = [.str n.name, .bool n.neg, .sl (wordRows n.num) false, .sl (wordRows n.den) false, .sl (Node.rows n.kids) false] := nr (by cases n; rfl)
@[go_sem] theorem Node.drop2 (n : Node) : n.cells.drop 2 = [.bool n.neg, .sl (wordRows n.num) false, .sl (wordRows n.den) false, .sl (Node.rows n.kids) false] := nr (by cases n; rfl)
@[go_sem] theorem Node.part54 (n : Node) : part (tyi Try.prog 54) n.cells = some (.agg n.cells) := by cases n; simp only [Node.cells, Vs.part54]
@[go_sem] theorem Node.part3 (n : Node) : part (tyi Try.prog 3) n.cells = some (.int .i64 n.op) := by cases n; simp only [Node.cells, Vs.part3]; rfl
theorem Node.plain (n : Node) : Plain (.agg n.cells) := by cases n; exact ⟨rfl, fun _ => rfl⟩
@[go_sem] theorem Node.fz (S : Store) (n : Node) : fzPV S (.agg n.cells) = some (.agg n.cells) := n.plain.2 S
@[go_sem] theorem Node.refs (n : Node) : refsL n.cells = [] := nr (by cases n; rfl)
@[go_sem] theorem boxed_if (S : Store) (id k : Nat) (v : PV) : boxed S id k v = if v.cells.length = k ∧ v.cells.all PV.cell = true then some { v := .mp id 0 0, new := some ([v.cells], none) } else none := nr rfl
end Go.Vs
end
/- Rules for stores of known arrays. -/
section
set_option linter.unusedVariables false
set_option linter.unusedSimpArgs false
namespace Go.Vs
open Go Go.Proofs
attribute [go_sem] List.all_cons List.all_nil Bool.and_self Bool.and_true Bool.true_and Bool.and_false Bool.false_and decide_true decide_false List.take_succ_cons List.take_zero List.take_nil List.drop_nil List.append_nil List.set_cons_zero List.set_cons_succ ge_iff_le
@[go_sem] theorem pvcells_agg (l : List PV) : PV.cells (.agg l) = l := nr rfl
@[go_sem] theorem pvcells_int (k : IntKind) (n : Int) : PV.cells (.int k n) = [.int k n] := nr rfl
@[go_sem] theorem pvcells_bool (b : Bool) : PV.cells (.bool b) = [.bool b] := nr rfl
@[go_sem] theorem pvcells_msl (a b c : Nat) (ex : Bool) : PV.cells (.msl a b c ex) = [.msl a b c ex] := nr rfl
@[go_sem] theorem cell_int (k : IntKind) (n : Int) : PV.cell (.int k n) = true := nr rfl
@[go_sem] theorem cell_bool (b : Bool) : PV.cell (.bool b) = true := nr rfl
@[go_sem] theorem cell_msl (a b c : Nat) (ex : Bool) : PV.cell (.msl a b c ex) = true := nr rfl
@[go_sem] theorem refs_undef : PV.refs .undef = [] := nr rfl
@[go_sem] theorem refs_int (k : IntKind) (n : Int) : PV.refs (.int k n) = [] := nr rfl
@[go_sem] theorem refs_bool (b : Bool) : PV.refs (.bool b) = [] := nr rfl
@[go_sem] theorem refs_sl (r : List (List PV)) (ex : Bool) : PV.refs (.sl r ex) = [] := nr rfl
@[go_sem] theorem refs_msl (a b c : Nat) (ex : Bool) : PV.refs (.msl a b c ex) = [a] := nr rfl
@[go_sem] theorem refs_mp (a b c : Nat) : PV.refs (.mp a b c) = [a] := nr rfl
@[go_sem] theorem rowsRefs_nil : rowsRefs [] = [] := nr rfl
@[go_sem] theorem rowsRefs_cons (v : List PV) (r : List (List PV)) : rowsRefs (v :: r) = refsL v ++ rowsRefs r := nr rfl
/-- Does all that is seen lie below a number? -/
def seenBelow (n : Nat) : Env → Bool
  | [] => true
  | (_, v) :: r => (v.refs.all fun i => decide (i < n)) && seenBelow n r
def heldBelow (n : Nat) : Nat → Store → Bool
  | 0, _ => true
  | _, [] => true
  | m + 1, .arr rows _ _ :: r => ((rowsRefs rows).all fun i => decide (i < n)) && heldBelow n m r
  | m + 1, .gone :: r => heldBelow n m r
theorem seenBelow_eq (n : Nat) : ∀ e : Env, (e.all fun (_, v) => v.refs.all fun i => decide (i < n)) = seenBelow n e
  | [] => rfl
  | (_, v) :: r => by simp only [List.all_cons, seenBelow, seenBelow_eq n r]
theorem heldBelow_eq (n : Nat) : ∀ (m : Nat) (S : Store), ((S.take m).all fun | .arr rows _ _ => (rowsRefs rows).all fun i => decide (i < n) | .gone => true) = heldBelow n m S
  | 0, S => by simp [heldBelow]
  | m + 1, [] => by simp [heldBelow]
  | m + 1, .arr rows g f :: r => by simp only [List.take_succ_cons, List.all_cons, heldBelow, heldBelow_eq n m r]
  | m + 1, .gone :: r => by simp only [List.take_succ_cons, List.all_cons, heldBelow, heldBelow_eq n m r, Bool.true_and]
@[go_sem] theorem gc_eq (n : Nat) (k : Nat) (v : PV) (e : Env) (o : Obj) (S : Store) : gc n ((k, v) :: e) (o :: S) = if seenBelow n ((k, v) :: e) = true ∧ heldBelow n n (o :: S) = true then (o :: S).take n else o :: S := by
  rw [← seenBelow_eq, ← heldBelow_eq]
  rfl
@[go_sem] theorem seenBelow_nil (n : Nat) : seenBelow n [] = true := nr rfl
@[go_sem] theorem seenBelow_cons (n k : Nat) (v : PV) (r : Env) : seenBelow n ((k, v) :: r) = ((v.refs.all fun i => decide (i < n)) && seenBelow n r) := nr rfl
@[go_sem] theorem heldBelow_nil (n m : Nat) : heldBelow n m [] = true := nr (by cases m <;> rfl)
@[go_sem] theorem heldBelow_cons (n m : Nat) (rows : List (List PV)) (g : Option (Option Nat)) (f : Bool) (r : Store) : heldBelow n (m + 1) (.arr rows g f :: r) = (((rowsRefs rows).all fun i => decide (i < n)) && heldBelow n m r) := nr rfl
@[go_sem] theorem storeE_eq (ti : TI) (S : Store) (a v : PV) : storeE ti S a v = if ti.known = true then (evStore ti.size S a v).map fun S => { v := .skip, S } else none := nr rfl
@[go_sem] theorem evStore_zero (n : Nat) (rows : List (List PV)) (g : Option (Option Nat)) (S : Store) (i off : Nat) (v : PV) : evStore n (.arr rows g false :: S) (.mp 0 i off) v =
    if i < rows.length ∧ off + n ≤ (rows.getD i []).length ∧ v.cells.length = n ∧ v.cells.all PV.cell = true then some (.arr (rows.set i (splice (rows.getD i []) off v.cells)) g false :: S) else none := nr rfl
@[go_sem] theorem evStore_succ (n : Nat) (o : Obj) (S : Store) (id i off : Nat) (v : PV) : evStore n (o :: S) (.mp (id + 1) i off) v = (evStore n S (.mp id i off) v).map fun S => o :: S := by
  simp only [evStore, List.getElem?_cons_succ]
  cases h : S[id]? with
  | none => rfl
  | some q =>
    cases q with
    | gone => rfl
    | arr rows g f =>
      cases f with
      | true => rfl
      | false =>
        simp only
        split <;> simp
@[go_sem] theorem splice_if (row : List PV) (off : Nat) (cs : List PV) : splice row off cs = if off = 0 ∧ cs.length = row.length then cs else row.take off ++ cs ++ row.drop (off + cs.length) := nr rfl
attribute [go_sem] Nat.le_refl
@[go_sem] theorem buildSlice22 (id n : Nat) (is : List Nat) (rows : List (List PV)) : buildSliceO Try.prog 22 id n is rows = if is = List.range n ∧ rowsOK 1 rows = true ∧ (rows.all fun r => r.all PV.cell) = true ∧ n * 1 ≤ 16777216 then some { v := .msl id 0 n true, new := some (rows, some (some 1)) } else none := by
  have e : (tyi Try.prog 3).zero.isSome = true := by kernel_rfl
  simp [buildSliceO, d22, size3, e]
@[go_sem] theorem rowsOK_nil (n : Nat) : rowsOK n [] = true := nr rfl
@[go_sem] theorem rowsOK_cons (n : Nat) (r : List PV) (l : List (List PV)) : rowsOK n (r :: l) = (r.length == n && rowsOK n l) := nr rfl
@[go_sem] theorem range0 : List.range 0 = [] := nr rfl
attribute [go_sem] beq_self_eq_true
end Go.Vs
end
/- Printed by a program of mine (stage1.py): the functions 35, 43, 44, 45, piece by piece. -/
section
set_option linter.unusedVariables false
set_option linter.unusedSimpArgs false
namespace Go.Vs
open Go Go.Proofs
noncomputable section

/-! ### isochroneref08.Size -/
namespace F35
section
variable (b i n n0 : Nat) (K : KT) (x0 x1 x2 x3 x4 x9 : PV) (e : Env) (S : Store)
end
end F35
/-! ### tree.Size -/
namespace F43
section
variable (b i n n0 : Nat) (K : KT) (x0 x1 x2 x3 x5 x7 x8 x9 x10 : PV) (e : Env) (S : Store)
end
end F43
/-! ### tree.Levels -/
namespace F44
section
variable (b i n n0 : Nat) (K : KT) (x0 x1 x2 x3 x5 x7 x8 x9 x10 : PV) (e : Env) (S : Store)
end
end F44
/-! ### isochroneref08.Levels -/
namespace F45
section
variable (b i n n0 : Nat) (K : KT) (x0 x1 x2 x3 x4 x9 : PV) (e : Env) (S : Store)
end
end F45
end
end Go.Vs
end
/- tree.Size, Levels, and the reference's: what they return. -/
section
set_option linter.unusedVariables false
set_option linter.unusedSimpArgs false
namespace Go.Vs
open Go Go.Proofs
mutual
/-- The number of nodes, as the machine counts. -/
def Node.size : Node → Int
  | .mk _ _ _ _ _ f => Node.sizes 1 f
def Node.sizes : Int → List Node → Int
  | a, [] => a
  | a, n :: r => Node.sizes (IntKind.i64.wrap (a + n.size)) r
end
mutual
/-- The number of levels, as the machine counts. -/
def Node.levels : Node → Int
  | .mk _ _ _ _ _ f => IntKind.i64.wrap (Node.most 0 f + 1)
def Node.most : Int → List Node → Int
  | a, [] => a
  | a, n :: r => Node.most (if a < n.levels then n.levels else a) r
end
theorem maxLen_le : maxLen ≤ 9223372036854775807 := by decide
theorem wrap_succ {i n : Nat} (h : i < n) (hn : n ≤ maxLen) : IntKind.i64.wrap ((i : Int) + 1) = ((i + 1 : Nat) : Int) := by
  have := maxLen_le
  rw [IntKind.wrap_i64]; omega
end Go.Vs
end
/- Printed by a program of mine (stage1.py): the functions 68, 69, 70, 71, 42, 46, 47, piece by piece. -/
section
set_option linter.unusedVariables false
set_option linter.unusedSimpArgs false
namespace Go.Vs
open Go Go.Proofs
noncomputable section

/-! ### tree.less -/
namespace F68
section
variable (b : Nat) (K : KT) (x0 x2 x3 : PV) (e : Env) (S : Store)
end
end F68
/-! ### tree.words -/
namespace F69
section
variable (b i n n0 : Nat) (K : KT) (x0 x1 x4 x5 x10 x21 x32 : PV) (e : Env) (S : Store)
end
end F69
/-! ### isochroneref08.less -/
namespace F70
section
variable (b : Nat) (K : KT) (x0 x1 x4 x7 x10 : PV) (e : Env) (S : Store)
end
end F70
/-! ### isochroneref08.words -/
namespace F71
section
variable (b i n n0 : Nat) (K : KT) (x0 x1 x4 x5 x10 x15 x20 x31 x40 : PV) (e : Env) (S : Store)
end
end F71
/-! ### tree.Compare -/
namespace F42
section
variable (b i n n1 : Nat) (K : KT) (x0 x1 x2 x3 x4 x5 x6 x7 x8 x9 x21 x33 x53 x63 x71 x82 x83 x84 x98 : PV) (e : Env) (S : Store)
end
end F42
/-! ### isochroneref08.Compare -/
namespace F46
section
variable (b i n n0 : Nat) (K : KT) (x0 x1 x2 x3 x4 x5 x6 x7 x8 x9 x10 x17 x23 x28 x35 x38 x47 x57 x67 x73 x88 : PV) (e : Env) (S : Store)
end
end F46
/-! ### tree.Equal -/
namespace F47
section
variable (b : Nat) (K : KT) (x0 x1 x2 x3 x4 : PV) (e : Env) (S : Store)
end
end F47
end
end Go.Vs
end
/- tree.Compare and the reference's: what they return. -/
section
set_option linter.unusedVariables false
set_option linter.unusedSimpArgs false
namespace Go.Vs
open Go Go.Proofs
theorem Node.ok.num {n : Node} (h : n.ok) : n.num.length ≤ maxLen := by cases n; exact h.2.2.1
theorem Node.ok.den {n : Node} (h : n.ok) : n.den.length ≤ maxLen := by cases n; exact h.2.2.2.1
theorem Node.ok.len {n : Node} (h : n.ok) : n.kids.length ≤ maxLen := by cases n; exact h.2.2.2.2.2.2.1
theorem Node.ok.kids {n : Node} (h : n.ok) : ∀ k ∈ n.kids, k.ok := by cases n; exact Node.oks_iff.1 h.2.2.2.2.2.2.2
end Go.Vs
end
/- Printed by a program of mine (stage1.py): the functions 97, 96, 94, 84, 85, 86, 63, 36, piece by piece. -/
section
set_option linter.unusedVariables false
set_option linter.unusedSimpArgs false
namespace Go.Vs
open Go Go.Proofs
noncomputable section

/-! ### num.valid -/
namespace F97
section
variable (b : Nat) (K : KT) (x0 x1 x4 : PV) (e : Env) (S : Store)
end
end F97
/-! ### num.Valid -/
namespace F96
section
variable (b : Nat) (K : KT) (x0 x1 x2 x4 x5 x23 x27 x54 : PV) (e : Env) (S : Store)
end
end F96
/-! ### rat.Valid -/
namespace F94
section
variable (b : Nat) (K : KT) (x0 x1 x2 : PV) (e : Env) (S : Store)
end
end F94
/-! ### tree.natural -/
namespace F84
section
variable (b : Nat) (K : KT) (x0 x1 x2 : PV) (e : Env) (S : Store)
end
end F84
/-! ### tree.shape -/
namespace F85
section
variable (b : Nat) (K : KT) (x0 x2 x3 x4 x5 x10 x19 x27 x28 x32 x37 x50 x56 x60 x64 x69 : PV) (e : Env) (S : Store)
end
end F85
/-! ### tree.differentiable -/
namespace F86
section
variable (b i n n1 : Nat) (K : KT) (x0 x1 x2 x4 x6 x7 x18 x22 x23 x24 x25 x30 : PV) (e : Env) (S : Store)
end
end F86
/-! ### tree.within -/
namespace F63
section
variable (b i n n0 : Nat) (K : KT) (x0 x1 x2 x3 x6 x8 x21 x23 x24 x25 x26 x34 : PV) (e : Env) (S : Store)
end
end F63
/-! ### tree.Check -/
namespace F36
section
variable (b : Nat) (K : KT) (x0 x1 x2 x4 x5 x11 x14 x19 x23 : PV) (e : Env) (S : Store)
end
end F36
end
end Go.Vs
end
/- Printed by a program of mine (stage1.py): the functions 64, piece by piece. -/
section
set_option linter.unusedVariables false
set_option linter.unusedSimpArgs false
namespace Go.Vs
open Go Go.Proofs
noncomputable section

/-! ### tree.formed -/
namespace F64
section
variable (b i n n1 n3 n5 n7 : Nat) (K : KT) (x0 x1 x2 x3 x4 x5 x6 x7 x8 x9 x11 x12 x13 x14 x17 x21 x38 x70 x72 x73 x85 x88 x89 x90 x95 x105 x112 x133 x137 x138 x139 x140 x152 x161 x172 x173 x180 x182 x199 x206 x208 x209 x210 x211 x228 x232 x251 : PV) (e : Env) (S : Store)
end
end F64
end
end Go.Vs
end
/- tree.natural, shape, differentiable: what they return. -/
section
set_option linter.unusedVariables false
set_option linter.unusedSimpArgs false
namespace Go.Vs
open Go Go.Proofs
end Go.Vs
end
/- tree.within: what it returns, and what it leaves. -/
section
set_option linter.unusedVariables false
set_option linter.unusedSimpArgs false
namespace Go.Vs
open Go Go.Proofs
mutual
def Node.within : Node → Int → Int → Bool × Int
  | .mk _ _ _ _ _ f, left, lv => if left - 1 < 0 ∨ lv ≤ 0 then (false, left - 1) else Node.withins f (left - 1) (lv - 1)
def Node.withins : List Node → Int → Int → Bool × Int
  | [], left, _ => (true, left)
  | n :: r, left, lv => if (n.within left lv).1 = true then Node.withins r (n.within left lv).2 lv else (false, (n.within left lv).2)
end
theorem heldBelow_mono {n n' : Nat} (h : n ≤ n') : ∀ (m : Nat) (S : Store), heldBelow n m S = true → heldBelow n' m S = true
  | 0, S, _ => by simp [heldBelow]
  | m + 1, [], _ => by simp [heldBelow]
  | m + 1, .arr rows g f :: r, hh => by
    simp only [heldBelow, Bool.and_eq_true, List.all_eq_true, decide_eq_true_eq] at hh ⊢
    exact ⟨fun i hi => Nat.lt_of_lt_of_le (hh.1 i hi) h, heldBelow_mono h m r hh.2⟩
  | m + 1, .gone :: r, hh => by
    simp only [heldBelow] at hh ⊢
    exact heldBelow_mono h m r hh
theorem heldBelow_append (n : Nat) : ∀ (S U : Store) (k : Nat), heldBelow n (S.length + k) (S ++ U) = (heldBelow n S.length S && heldBelow n k U)
  | [], U, k => by simp [heldBelow]
  | .arr rows g f :: S, U, k => by
    have e : (Obj.arr rows g f :: S).length + k = (S.length + k) + 1 := by simp only [List.length_cons]; omega
    rw [e]
    simp only [List.cons_append, heldBelow, List.length_cons, heldBelow_append n S U k, Bool.and_assoc]
  | .gone :: S, U, k => by
    have e : (Obj.gone :: S).length + k = (S.length + k) + 1 := by simp only [List.length_cons]; omega
    rw [e]
    simp only [List.cons_append, heldBelow, List.length_cons, heldBelow_append n S U k]
attribute [go_sem] List.append_assoc List.length_append
theorem callE_eq {b : Nat} {h : Hint} {S : Store} {f : FuncId} {l : List PV} {v : PV} {S' : Store} (hr : hints.refs f = true) (hc : callRL Try.prog hints f l S = some (v, S')) (hl : S.length ≤ S'.length) : callE (ctxL Try.prog hints b h) S f l = some { v, S := S' } := by
  have e1 : (ctxL Try.prog hints b h).H.refs f = true := hr
  have e2 : (ctxL Try.prog hints b h).cr f l S = some (v, S') := hc
  unfold callE
  rw [if_pos e1, e2]
  simp only [Option.bind_some]
  rw [if_pos hl]
/-- All that is held lies below. -/
def Held (ra : List (List PV)) (T : Store) : Prop := ((rowsRefs ra).all fun i => decide (i < T.length + 2)) = true ∧ heldBelow (T.length + 2) T.length T = true
theorem Held.push {ra : List (List PV)} {T : Store} (h : Held ra T) {row : List PV} (hr : refsL row = []) : Held ra (T ++ [.arr [row] none false]) := by
  refine ⟨?_, ?_⟩
  · have h1 := h.1
    simp only [List.all_eq_true, decide_eq_true_eq, List.length_append, List.length_cons, List.length_nil] at h1 ⊢
    intro i hi
    have := h1 i hi
    omega
  · have e := heldBelow_append ((T ++ [Obj.arr [row] none false]).length + 2) T [Obj.arr [row] none false] 1
    have e2 : (T ++ [Obj.arr [row] none false]).length = T.length + 1 := by simp
    rw [e2] at e ⊢
    rw [e, heldBelow_mono (by omega) _ _ h.2]
    simp [heldBelow, rowsRefs, hr]
/-! ### The true numbers of nodes and levels -/
mutual
def Node.count : Node → Nat
  | .mk _ _ _ _ _ f => Node.counts f + 1
def Node.counts : List Node → Nat
  | [] => 0
  | n :: r => n.count + Node.counts r
end
end Go.Vs
end
/- Trees as arguments. -/
section
set_option linter.unusedVariables false
set_option linter.unusedSimpArgs false
namespace Go.Vs
open Go Go.Proofs
/-- The types of a struct's fields. -/
def fieldTypes (P : Program) (t : TypeId) : Option (List TypeId) := match P.underlying t with
  | some (.struct fs) => some (fs.toList.map Field.type)
  | _ => none
theorem all2_map {α β γ : Type} {R : γ → β → Prop} {f : α → γ} : ∀ {x : List α} {y : List β}, All2 (fun a b => R (f a) b) x y → All2 R (x.map f) y
  | _, _, .nil => .nil
  | _, _, .cons h t => .cons h (all2_map t)
theorem Dt.struct {P : Program} {k : Nat} {t : TypeId} {ts : List TypeId} {pvs : List PV} (hf : fieldTypes P t = some ts) (h : Dt P k t pvs) : ∃ k', k = k' + 1 ∧ ∃ pss : List (List PV), pvs = pss.flatten ∧ All2 (fun t ps => Dt P k' t ps) ts pss := by
  cases k with
  | zero => simp only [Dt] at h
  | succ k =>
    unfold fieldTypes at hf
    split at hf
    · rename_i fs hu
      simp only [Dt, hu] at h
      obtain ⟨pss, h1, h2⟩ := h
      simp only [Option.some.injEq] at hf
      subst hf
      exact ⟨k, rfl, pss, h1, all2_map (R := fun t ps => Dt P k t ps) h2⟩
    · cases hf
theorem Dt.slice {P : Program} {k : Nat} {t e : TypeId} {pvs : List PV} (hu : P.underlying t = some (.slice e)) (h : Dt P k t pvs) : ∃ k', k = k' + 1 ∧ ∃ rows, pvs = [.sl rows false] ∧ rows.length ≤ maxLen ∧ ∀ r ∈ rows, Dt P k' e r := by
  cases k with
  | zero => simp only [Dt] at h
  | succ k =>
    simp only [Dt, hu] at h
    exact ⟨k, rfl, h⟩
theorem Dt.int {P : Program} {k : Nat} {t : TypeId} {kd : IntKind} {pvs : List PV} (hu : P.underlying t = some (.int kd)) (h : Dt P k t pvs) : ∃ n, (Lit.int kd n).wf = true ∧ pvs = [.int kd n] := by
  cases k with
  | zero => simp only [Dt] at h
  | succ k => simpa only [Dt, hu] using h
theorem Dt.bool {P : Program} {k : Nat} {t : TypeId} {pvs : List PV} (hu : P.underlying t = some .bool) (h : Dt P k t pvs) : ∃ b, pvs = [.bool b] := by
  cases k with
  | zero => simp only [Dt] at h
  | succ k => simpa only [Dt, hu] using h
theorem Dt.str {P : Program} {k : Nat} {t : TypeId} {pvs : List PV} (hu : P.underlying t = some .string) (h : Dt P k t pvs) : ∃ s : ByteArray, s.size ≤ maxLen ∧ pvs = [.str s] := by
  cases k with
  | zero => simp only [Dt] at h
  | succ k => simpa only [Dt, hu] using h
theorem All2.inv {α β : Type} {R : α → β → Prop} {a : α} {x : List α} {y : List β} (h : All2 R (a :: x) y) : ∃ b z, y = b :: z ∧ R a b ∧ All2 R x z := by
  cases h with
  | cons h t => exact ⟨_, _, rfl, h, t⟩
theorem All2.inv0 {α β : Type} {R : α → β → Prop} {y : List β} (h : All2 R [] y) : y = [] := by cases h; rfl
theorem rows_choose {α : Type} {P : List PV → Prop} {Q : α → Prop} {f : α → List PV} (h : ∀ r, P r → ∃ a, Q a ∧ r = f a) : ∀ rows : List (List PV), (∀ r ∈ rows, P r) → ∃ l : List α, (∀ a ∈ l, Q a) ∧ rows = l.map f
  | [], _ => ⟨[], by simp, rfl⟩
  | r :: rows, hr => by
    obtain ⟨a, h1, h2⟩ := h r (hr r (by simp))
    obtain ⟨l, h3, h4⟩ := rows_choose h rows fun x hx => hr x (by simp [hx])
    exact ⟨a :: l, by simpa using ⟨h1, h3⟩, by simp [h2, h4]⟩
theorem und76 : Try.prog.underlying 76 = some (.int .u32) := by kernel_rfl
theorem und49 : Try.prog.underlying 49 = some (.slice 76) := by kernel_rfl
theorem und22 : Try.prog.underlying 22 = some (.slice 3) := by kernel_rfl
theorem wf_i64 {n : Int} (h : (Lit.int .i64 n).wf = true) : -9223372036854775808 ≤ n ∧ n ≤ 9223372036854775807 := by
  simpa [Lit.wf, IntKind.min, IntKind.max, IntKind.signed, IntKind.bits] using h
theorem wf_u32 {n : Int} (h : (Lit.int .u32 n).wf = true) : 0 ≤ n ∧ n ≤ 4294967295 := by
  simpa [Lit.wf, IntKind.min, IntKind.max, IntKind.signed, IntKind.bits] using h
theorem Dt.words {k : Nat} {pvs : List PV} (h : Dt Try.prog k 49 pvs) : ∃ l : List Int, l.length ≤ maxLen ∧ (∀ w ∈ l, 0 ≤ w ∧ w ≤ 4294967295) ∧ pvs = [.sl (wordRows l) false] := by
  obtain ⟨k', rfl, rows, rfl, h1, h2⟩ := h.slice und49
  obtain ⟨l, h3, h4⟩ := rows_choose (Q := fun w => 0 ≤ w ∧ w ≤ 4294967295) (f := fun w : Int => [.int .u32 w]) (fun r hr => by
    obtain ⟨n, h5, h6⟩ := Dt.int und76 hr
    exact ⟨n, wf_u32 h5, h6⟩) rows h2
  subst h4
  exact ⟨l, by simpa using h1, h3, rfl⟩
/-- A slice of ints, as an argument. -/
def intRows (l : List Int) : List (List PV) := l.map fun w => [.int .i64 w]
theorem Arg.ints {k : Nat} {pv : PV} (h : Arg Try.prog k 22 pv) : ∃ l : List Int, l.length ≤ maxLen ∧ (∀ w ∈ l, -9223372036854775808 ≤ w ∧ w ≤ 9223372036854775807) ∧ pv = .sl (intRows l) false := by
  simp only [Arg, und22] at h
  obtain ⟨k', rfl, rows, h0, h1, h2⟩ := h.slice und22
  obtain ⟨l, h3, rfl⟩ := rows_choose (Q := fun w => -9223372036854775808 ≤ w ∧ w ≤ 9223372036854775807) (f := fun w : Int => [.int .i64 w]) (fun r hr => by
    obtain ⟨n, h5, h6⟩ := Dt.int und3 hr
    exact ⟨n, wf_i64 h5, h6⟩) rows h2
  exact ⟨l, by simpa using h1, h3, by simpa [intRows] using h0⟩
end Go.Vs
end
/- Rules for slices of ints, places, appends to known arrays. -/
section
set_option linter.unusedVariables false
set_option linter.unusedSimpArgs false
namespace Go.Vs
open Go Go.Proofs
@[go_sem] theorem intRows_length (l : List Int) : (intRows l).length = l.length := nr (by simp [intRows])
@[go_sem] theorem intRows_refs : ∀ l : List Int, rowsRefs (intRows l) = []
  | [] => rfl
  | a :: r => by
    have := intRows_refs r
    simp only [intRows, List.map_cons, rowsRefs_cons] at this ⊢
    rw [this]; rfl
theorem intRows_append (a b : List Int) : intRows (a ++ b) = intRows a ++ intRows b := by simp [intRows]
@[go_sem] theorem intRows_ok : ∀ l : List Int, rowsOK 1 (intRows l) = true
  | [] => rfl
  | a :: r => by
    have := intRows_ok r
    simp only [intRows, List.map_cons, rowsOK_cons] at this ⊢
    rw [this]; rfl
@[go_sem] theorem idx22 (S : Store) (l : List Int) (ex : Bool) (i : Int) : indexAddrO Try.prog 22 S (.sl (intRows l) ex) (.int .i64 i) = if 0 ≤ i ∧ i < l.length then some (.cp [.int .i64 (l.getD i.toNat 0)]) else none := by
  have e1 : elemTy (tyi Try.prog 22) = 3 := by simp [elemTy, d22]
  have e2 : isSlice (tyi Try.prog 22) = true := by simp [isSlice, d22]
  simp only [indexAddrO, e1, e2, known3, size3, and_self, if_true, evIndexAddr, intRows_length]
  split
  · rename_i h
    have hl : i.toNat < l.length := by omega
    have e3 : (intRows l).getD i.toNat [] = [.int .i64 (l.getD i.toNat 0)] := by
      simp [intRows, List.getD_eq_getElem?_getD, hl]
    rw [e3]
    rfl
  · rfl
@[go_sem] theorem len22m (i o l : Nat) (ex : Bool) : lenO (tyi Try.prog 22) (.msl i o l ex) = some (.int .i64 l) := lenO_msl _ d22 i o l ex
/-! ### Places -/
/-! ### Appends -/
theorem append_known {b bytes esz : Nat} {S : Store} {id len : Nat} {rows new : List (List PV)} {g : Option Nat} {ex : Bool} {y : PV} (hS : S[id]? = some (.arr rows (some g) false)) (hy : rowsIn S y = some new) (hb : b ≤ id)
    (hl : len = rows.length) (hg : g = none ∨ g = some esz) (h1 : rowsOK esz rows = true) (h2 : rowsOK esz new = true) (h3 : (rows.length + new.length) * bytes ≤ 140737488355328) (h4 : rows.length + new.length ≤ 9223372036854775807)
    (h5 : (rowsRefs rows ++ rowsRefs new).contains id = false) : evAppend b bytes esz S (.msl id 0 len ex) y = some { v := .msl id 0 (rows.length + new.length) false, S := (S.map (killObj [id])).set id (.arr (rows ++ new) (some (some esz)) false), kill := [id] } := by
  simp only [evAppend, if_pos hb, evAppend1, hS, hy, Option.bind_some]
  rw [if_pos ⟨hb, hl, hg, h1, h2, h3, h4, h5⟩]
@[go_sem] theorem appendE22 (b : Nat) (S : Store) (id o len : Nat) (y : PV) : appendE Try.prog b 22 22 S (.msl id o len false) y = evAppend b 8 1 S (.msl id o len false) y := by
  have e1 : zeroOK (tyi Try.prog 3) = true := by kernel_rfl
  have e2 : (tyi Try.prog 3).bytes = 8 := by kernel_rfl
  simp [appendE, exact, d22, e1, e2, size3]
@[go_sem] theorem killE_cons (i : Nat) (e : Env) : killE [i] e = e.map fun (t, v) => (t, kill1 [i] v) := nr rfl
@[go_sem] theorem kill1_eq (ids : List Nat) (v : PV) : kill1 ids v = if (v.refs.any fun i => ids.contains i) = true then .undef else v := nr rfl
@[go_sem] theorem killObj_arr (ids : List Nat) (rows : List (List PV)) (g : Option (Option Nat)) (f : Bool) : killObj ids (.arr rows g f) = .arr (killRows ids rows) g f := nr rfl
@[go_sem] theorem killRows_eq (ids : List Nat) (rows : List (List PV)) : killRows ids rows = if ((rowsRefs rows).any fun i => ids.contains i) = true then rows.map fun r => r.map (kill1 ids) else rows := nr rfl
attribute [go_sem] List.map_cons List.map_nil List.any_cons List.any_nil Bool.or_false Bool.false_or Bool.or_self List.contains_cons List.contains_nil
attribute [go_sem] List.flatMap_cons List.flatMap_nil
@[go_sem] theorem rowsIn_msl (S : Store) (id off len : Nat) (ex : Bool) : rowsIn S (.msl id off len ex) = (rowsAt S id).bind fun rows => if off + len ≤ rows.length then some ((rows.drop off).take len) else none := nr rfl
theorem mapO_all {α β : Type} {f : α → Option β} {g : α → β} : ∀ {l : List α}, (∀ a ∈ l, f a = some (g a)) → mapO f l = some (l.map g)
  | [], _ => rfl
  | a :: r, h => by simp [mapO, h a (by simp), mapO_all (l := r) fun x hx => h x (by simp [hx])]
end Go.Vs
end
/- Rules for stores with a part that isn't known; appends to arrays of trees and of words. -/
section
set_option linter.unusedVariables false
set_option linter.unusedSimpArgs false
namespace Go.Vs
open Go Go.Proofs
/-- Holds no array, and no frozen flag matters: rows without references. -/
def Quiet (T : Store) : Prop := ∀ o ∈ T, ∃ rows g f, o = .arr rows g f ∧ rowsRefs rows = []
theorem Quiet.nil : Quiet [] := by intro o h; cases h
theorem Quiet.cons {rows : List (List PV)} {g : Option (Option Nat)} {f : Bool} {T : Store} (h : rowsRefs rows = []) (hT : Quiet T) : Quiet (.arr rows g f :: T) := by
  intro o ho
  rcases List.mem_cons.1 ho with rfl | ho
  · exact ⟨_, _, _, rfl, h⟩
  · exact hT o ho
theorem Quiet.tail {o : Obj} {T : Store} (hT : Quiet (o :: T)) : Quiet T := fun x hx => hT x (by simp [hx])
theorem Quiet.append {T U : Store} (hT : Quiet T) (hU : Quiet U) : Quiet (T ++ U) := fun o ho => by
  rcases List.mem_append.1 ho with h | h
  · exact hT o h
  · exact hU o h
theorem Quiet.kill : ∀ {T : Store}, Quiet T → ∀ ids, T.map (killObj ids) = T
  | [], _, _ => rfl
  | o :: T, h, ids => by
    obtain ⟨rows, g, f, rfl, hr⟩ := h o (by simp)
    rw [List.map_cons, h.tail.kill, killObj_arr, killRows_eq, hr]
    rfl
theorem Quiet.held : ∀ {T : Store}, Quiet T → ∀ n m, heldBelow n m T = true
  | _, _, _, 0 => by simp [heldBelow]
  | [], _, _, m + 1 => rfl
  | o :: T, h, n, m + 1 => by
    obtain ⟨rows, g, f, rfl, hr⟩ := h o (by simp)
    rw [heldBelow_cons, hr, h.tail.held]
    rfl
attribute [go_sem] List.map_append
/-! ### Structs from parts -/
end Go.Vs
end
/- Stores that are known in part: what stays, lists of paths in them. -/
section
set_option linter.unusedVariables false
set_option linter.unusedSimpArgs false
namespace Go.Vs
open Go Go.Proofs
/-- A value that reads as a list of ints. -/
inductive Ints (S : Store) : PV → List Int → Prop
  | sl (l : List Int) (ex : Bool) : Ints S (.sl (intRows l) ex) l
  | msl (id : Nat) (l : List Int) (ex : Bool) (g : Option (Option Nat)) (f : Bool) (h : S[id]? = some (.arr (intRows l) g f)) : Ints S (.msl id 0 l.length ex) l
/-- What lies below n stays, but for the places X, and for what refers to D. -/
structure Keep (n : Nat) (X D : List Nat) (S S' : Store) : Prop where
  len : n ≤ S'.length
  keeps : ∀ j, j < n → j ∉ X → ∀ rows g f, S[j]? = some (.arr rows g f) → (∀ r ∈ rowsRefs rows, r < n ∧ r ∉ D) → S'[j]? = some (.arr rows g f)
theorem Keep.refl {n : Nat} {X D : List Nat} {S : Store} (h : n ≤ S.length) : Keep n X D S S := ⟨h, fun _ _ _ _ _ _ h _ => h⟩
/-- Below n nothing changes. -/
theorem Keep.same {n : Nat} {X D : List Nat} {S S' : Store} (h : n ≤ S'.length) (hs : ∀ j, j < n → S'[j]? = S[j]?) : Keep n X D S S' := ⟨h, fun j hj _ _ _ _ ha _ => by rw [hs j hj]; exact ha⟩
theorem Keep.trans {n m : Nat} {X D X' D' : List Nat} {S S1 S2 : Store} (h : Keep n X D S S1) (k : Keep m X' D' S1 S2) (hn : n ≤ m) (hX : ∀ r ∈ X', r ∈ X ∨ n ≤ r) (hD : ∀ r ∈ D', r ∈ D ∨ n ≤ r) : Keep n X D S S2 := by
  refine ⟨Nat.le_trans hn k.len, fun j hj hx rows g f ha hr => ?_⟩
  refine k.keeps j (by omega) (fun hx' => ?_) rows g f (h.keeps j hj hx rows g f ha hr) fun r hrr => ⟨by have := (hr r hrr).1; omega, fun hd => ?_⟩
  · rcases hX j hx' with h1 | h1
    · exact hx h1
    · omega
  · rcases hD r hd with h1 | h1
    · exact (hr r hrr).2 h1
    · have := (hr r hrr).1; omega
theorem Ints.refs_lt {S : Store} {p : PV} {l : List Int} (h : Ints S p l) : ∀ r ∈ p.refs, r < S.length := by
  cases h with
  | sl l ex => intro r hr; cases hr
  | msl id l ex g f h =>
    intro r hr
    have := (List.getElem?_eq_some_iff.1 h).1
    simp only [PV.refs, List.mem_singleton] at hr
    omega
theorem Ints.keep {n : Nat} {X D : List Nat} {S S' : Store} {p : PV} {l : List Int} (h : Ints S p l) (k : Keep n X D S S') (hn : ∀ r ∈ p.refs, r < n ∧ r ∉ X) : Ints S' p l := by
  cases h with
  | sl l ex => exact .sl l ex
  | msl id l ex g f h =>
    have := hn id (by simp [PV.refs])
    exact .msl id l ex g f (k.keeps id this.1 this.2 _ _ _ h (by rw [intRows_refs]; intro r hr; cases hr))
theorem Ints.same {S S' : Store} {p : PV} {l : List Int} (h : Ints S p l) (hs : ∀ r ∈ p.refs, S'[r]? = S[r]?) : Ints S' p l := by
  cases h with
  | sl l ex => exact .sl l ex
  | msl id l ex g f h => exact .msl id l ex g f (by rw [hs id (by simp [PV.refs])]; exact h)
theorem Ints.len {S : Store} {p : PV} {l : List Int} (h : Ints S p l) : lenO (tyi Try.prog 22) p = some (.int .i64 l.length) := by
  cases h with
  | sl l ex => rw [len22, intRows_length]
  | msl id l ex g f h => rw [len22m]
theorem Ints.rowsIn {S : Store} {p : PV} {l : List Int} (h : Ints S p l) : Vs.rowsIn S p = some (intRows l) := by
  cases h with
  | sl l ex => rfl
  | msl id l ex g f h =>
    have e : rowsAt S id = some (intRows l) := by simp only [rowsAt, h]
    rw [rowsIn_msl, e]
    simp only [Option.bind_some, Nat.zero_add, intRows_length, Nat.le_refl, if_true, List.drop_zero]
    rw [← intRows_length l, List.take_length]
theorem Ints.cell {S : Store} {p : PV} {l : List Int} (h : Ints S p l) : p.cell = true := by cases h <;> rfl
theorem Ints.cells {S : Store} {p : PV} {l : List Int} (h : Ints S p l) : p.cells = [p] := by cases h <;> rfl
theorem Ints.fz {S : Store} {p : PV} {l : List Int} (h : Ints S p l) (d : Nat) : fzCell S (d + 2) p = some (.sl (intRows l) false) := by
  cases h with
  | sl l ex => rfl
  | msl id l ex g f h =>
    have e1 : Vs.rowsIn S (.msl id 0 l.length false) = some (intRows l) := (Ints.msl id l false g f h).rowsIn
    have e2 : mapO (mapO (fzCell S (d + 1))) (intRows l) = some (intRows l) := by
      have := mapO_all (f := mapO (fzCell S (d + 1))) (g := fun x => x) (l := intRows l) (fun a ha => by
        obtain ⟨w, _, rfl⟩ := List.mem_map.1 ha
        rfl)
      simpa using this
    show ((Vs.rowsIn S (.msl id 0 l.length false)).bind fun rows => (mapO (mapO (fzCell S (d + 1))) rows).map fun rows => PV.sl rows false) = _
    rw [e1]
    simp only [Option.bind_some, e2, Option.map_some]
/-- Rows of a list of paths; none of them is array id. -/
inductive PathRows (S : Store) (id : Nat) : List (List PV) → List (List Int) → Prop
  | nil : PathRows S id [] []
  | cons {p : PV} {l : List Int} {rows : List (List PV)} {L : List (List Int)} (h : Ints S p l) (hi : id ∉ p.refs) (t : PathRows S id rows L) : PathRows S id ([p] :: rows) (l :: L)
theorem PathRows.length {S : Store} {id : Nat} {rows : List (List PV)} {L : List (List Int)} (h : PathRows S id rows L) : rows.length = L.length := by
  induction h with
  | nil => rfl
  | cons _ _ _ ih => simp [ih]
theorem PathRows.ok {S : Store} {id : Nat} {rows : List (List PV)} {L : List (List Int)} (h : PathRows S id rows L) : rowsOK 1 rows = true := by
  induction h with
  | nil => rfl
  | cons _ _ _ ih => rw [rowsOK_cons, ih]; rfl
theorem PathRows.out {S : Store} {id : Nat} {rows : List (List PV)} {L : List (List Int)} (h : PathRows S id rows L) : id ∉ rowsRefs rows := by
  induction h with
  | nil => simp [rowsRefs]
  | cons h1 h2 _ ih => simp only [rowsRefs_cons, refsL, List.append_nil, List.mem_append, not_or]; exact ⟨h2, ih⟩
/-- The same in another store, perhaps another array, for what the rows refer to. -/
theorem PathRows.move {S S' : Store} {id id' : Nat} {rows : List (List PV)} {L : List (List Int)} (h : PathRows S id rows L) (hs : ∀ r ∈ rowsRefs rows, S'[r]? = S[r]? ∧ r ≠ id') : PathRows S' id' rows L := by
  induction h with
  | nil => exact .nil
  | @cons p l rows L h1 h2 _ ih =>
    simp only [rowsRefs_cons, refsL, List.append_nil, List.mem_append] at hs
    exact .cons (h1.same fun r hr => (hs r (.inl hr)).1) (fun hx => (hs _ (.inl hx)).2 rfl) (ih fun r hr => hs r (.inr hr))
theorem PathRows.lt {S : Store} {id : Nat} {rows : List (List PV)} {L : List (List Int)} (h : PathRows S id rows L) : ∀ r ∈ rowsRefs rows, r < S.length := by
  induction h with
  | nil => intro r hr; cases hr
  | cons h1 _ _ ih =>
    intro r hr
    simp only [rowsRefs_cons, refsL, List.append_nil, List.mem_append] at hr
    rcases hr with hr | hr
    · exact h1.refs_lt r hr
    · exact ih r hr
/-- A list of paths that may be appended to. -/
inductive OutV (S : Store) : PV → List (List Int) → Prop
  | nil : OutV S (.sl [] true) []
  | arr (id : Nat) (rows : List (List PV)) (L : List (List Int)) (h : S[id]? = some (.arr rows (some (some 1)) false)) (hr : PathRows S id rows L) : OutV S (.msl id 0 L.length false) L
theorem OutV.lt {S : Store} {v : PV} {L : List (List Int)} (h : OutV S v L) : ∀ r ∈ v.refs, r < S.length := by
  cases h with
  | nil => intro r hr; cases hr
  | arr id rows L h hr =>
    intro r hr
    have := (List.getElem?_eq_some_iff.1 h).1
    simp only [PV.refs, List.mem_singleton] at hr
    omega
/-- In a longer store. -/
theorem OutV.ext {S : Store} {v : PV} {L : List (List Int)} (h : OutV S v L) (U : Store) : OutV (S ++ U) v L := by
  cases h with
  | nil => exact .nil
  | arr id rows L h hr =>
    have hl := (List.getElem?_eq_some_iff.1 h).1
    refine .arr id rows L (by rw [List.getElem?_append_left hl]; exact h) (hr.move fun r hrr => ⟨by rw [List.getElem?_append_left (hr.lt r hrr)], fun e => hr.out (e ▸ hrr)⟩)
theorem gc_at {n : Nat} {e : Env} {S : Store} (hn : n ≤ S.length) : n ≤ (gc n e S).length ∧ ∀ j, j < n → (gc n e S)[j]? = S[j]? := by
  unfold gc
  split
  · exact ⟨by rw [List.length_take]; omega, fun j hj => by rw [List.getElem?_take_of_lt hj]⟩
  · exact ⟨hn, fun _ _ => rfl⟩
theorem OutV.gc {n : Nat} {e : Env} {S : Store} {v : PV} {L : List (List Int)} (h : OutV S v L) (he : ∃ t, (t, v) ∈ e) : OutV (Vs.gc n e S) v L := by
  unfold Vs.gc
  split
  case isFalse => exact h
  rename_i hc
  obtain ⟨h1, h2⟩ := hc
  rw [List.all_eq_true] at h1 h2
  obtain ⟨t, ht⟩ := he
  have hv := h1 _ ht
  simp only [List.all_eq_true, decide_eq_true_eq] at hv
  cases h with
  | nil => exact .nil
  | arr id rows L h hr =>
    have hid : id < n := hv id (by simp [PV.refs])
    have hrows := h2 (.arr rows (some (some 1)) false) (by
      have e : (S.take n)[id]? = some (.arr rows (some (some 1)) false) := by rw [List.getElem?_take_of_lt hid]; exact h
      exact List.mem_of_getElem? e)
    simp only [List.all_eq_true, decide_eq_true_eq] at hrows
    exact .arr id rows L (by rw [List.getElem?_take_of_lt hid]; exact h) (hr.move fun r hrr => ⟨by rw [List.getElem?_take_of_lt (hrows r hrr)], fun e => hr.out (e ▸ hrr)⟩)
theorem kill1_id {ids : List Nat} {v : PV} (h : ∀ r ∈ v.refs, r ∉ ids) : kill1 ids v = v := by
  unfold kill1
  rw [if_neg]
  simp only [List.any_eq_true, not_exists, not_and, List.contains_iff_mem]
  exact h
theorem killRows_id {ids : List Nat} {rows : List (List PV)} (h : ∀ r ∈ rowsRefs rows, r ∉ ids) : killRows ids rows = rows := by
  unfold killRows
  rw [if_neg]
  simp only [List.any_eq_true, not_exists, not_and, List.contains_iff_mem]
  exact h
theorem map_kill_at {ids : List Nat} {S : Store} {j : Nat} {rows : List (List PV)} {g : Option (Option Nat)} {f : Bool} (h : S[j]? = some (.arr rows g f)) (hr : ∀ r ∈ rowsRefs rows, r ∉ ids) : (S.map (killObj ids))[j]? = some (.arr rows g f) := by
  rw [List.getElem?_map, h]
  simp only [Option.map_some, killObj_arr, killRows_id hr]
theorem PathRows.keep {n : Nat} {X D : List Nat} {S S' : Store} {id id' : Nat} {rows : List (List PV)} {L : List (List Int)} (h : PathRows S id rows L) (k : Keep n X D S S') (hs : ∀ r ∈ rowsRefs rows, r < n ∧ r ∉ X ∧ r ≠ id') : PathRows S' id' rows L := by
  induction h with
  | nil => exact .nil
  | @cons p l rows L h1 h2 _ ih =>
    simp only [rowsRefs_cons, refsL, List.append_nil, List.mem_append] at hs
    exact .cons (h1.keep k fun r hr => ⟨(hs r (.inl hr)).1, (hs r (.inl hr)).2.1⟩) (fun hx => (hs _ (.inl hx)).2.2 rfl) (ih fun r hr => hs r (.inr hr))
theorem killObj_none (o : Obj) : killObj [] o = o := by
  cases o with
  | gone => rfl
  | arr rows g f => rw [killObj_arr, killRows_id (by intro r _ h; cases h)]
end Go.Vs
end
/- Rules for slices of ints that are made, lists of lists, places of one value. -/
section
set_option linter.unusedVariables false
set_option linter.unusedSimpArgs false
namespace Go.Vs
open Go Go.Proofs
theorem makeSlice22 (id n : Nat) (h : n ≤ 2000000) : makeSliceO Try.prog 22 id (.int .i64 n) (.int .i64 n) = some { v := .msl id 0 n true, new := some (List.replicate n [.int .i64 0], some (some 1)) } := by
  have e2 : (tyi Try.prog 3).bytes = 8 := by kernel_rfl
  have e3 : (tyi Try.prog 3).zero = some [.int .i64 0] := by kernel_rfl
  simp only [makeSliceO, d22, e3, Option.bind_some, e2, size3]
  rw [if_pos ⟨by omega, by omega, by omega, by omega, rfl, rfl⟩]
  simp
theorem rowsAt_of {S : Store} {id : Nat} {rows : List (List PV)} {g : Option (Option Nat)} {f : Bool} (h : S[id]? = some (.arr rows g f)) : rowsAt S id = some rows := by simp only [rowsAt, h]
theorem withV_any {R : Type} (x : PV) (K : PV → Option R) : withV (some x) K = K x := nr rfl
@[go_sem] theorem known23 : (tyi Try.prog 23).known = true := nr (by kernel_rfl)
@[go_sem] theorem part23 (v : PV) (r : List PV) : part (tyi Try.prog 23) (v :: r) = some v := by
  have e : (tyi Try.prog 23).isAgg = false := by kernel_rfl
  simp [part, known23, e]
def pathRows (L : List (List Int)) : List (List PV) := L.map fun l => [.sl (intRows l) false]
@[go_sem] theorem pathRows_length (L : List (List Int)) : (pathRows L).length = L.length := nr (by simp [pathRows])
@[go_sem] theorem idx23 (S : Store) (L : List (List Int)) (ex : Bool) (i : Int) : indexAddrO Try.prog 23 S (.sl (pathRows L) ex) (.int .i64 i) = if 0 ≤ i ∧ i < L.length then some (.cp [.sl (intRows (L.getD i.toNat [])) false]) else none := by
  have e1 : elemTy (tyi Try.prog 23) = 22 := by simp [elemTy, d23]
  have e2 : isSlice (tyi Try.prog 23) = true := by simp [isSlice, d23]
  simp only [indexAddrO, e1, e2, known22, size22, and_self, if_true, evIndexAddr, pathRows_length]
  split
  · rename_i h
    have hl : i.toNat < L.length := by omega
    have e3 : (pathRows L).getD i.toNat [] = [.sl (intRows (L.getD i.toNat [])) false] := by
      simp [pathRows, List.getD_eq_getElem?_getD, hl]
    rw [e3]
    rfl
  · rfl
theorem idx22m {S : Store} {id n : Nat} {ex : Bool} {rows : List (List PV)} (i : Nat) (hS : rowsAt S id = some rows) (hl : rows.length = n) (h2 : rowsOK 1 rows = true) (hi : i < n) : indexAddrO Try.prog 22 S (.msl id 0 n ex) (.int .i64 i) = some (.mp id i 0) := by
  have e1 : elemTy (tyi Try.prog 22) = 3 := by simp [elemTy, d22]
  have e2 : isSlice (tyi Try.prog 22) = true := by simp [isSlice, d22]
  simp only [indexAddrO, e1, e2, known3, size3, and_self, if_true, evIndexAddr, hS, Option.bind_some]
  rw [if_pos ⟨by omega, by omega⟩, if_pos ⟨h2, by omega⟩, Nat.zero_add, Int.toNat_natCast]
theorem store_box {ti : TI} {S : Store} {ob : Nat} {u v : PV} (hk : ti.known = true) (hs : ti.size = 1) (h : S[ob]? = some (.arr [[u]] none false)) (hv : v.cells = [v]) (hc : v.cell = true) : storeE ti S (.mp ob 0 0) v = some { v := .skip, S := S.set ob (.arr [[v]] none false) } := by
  simp only [storeE_eq, hk, if_true, hs, evStore, h, hv]
  rw [if_pos ⟨by simp, by simp, rfl, by simp [hc]⟩]
  rfl
theorem copyE22 {S : Store} {id n : Nat} {ex : Bool} {rows : List (List PV)} {g : Option (Option Nat)} {p : PV} {l : List Int} (hS : S[id]? = some (.arr rows g false)) (h1 : rows.length = n) (h2 : rowsOK 1 rows = true) (hp : Ints S p l) (h3 : l.length ≤ n) :
    copyE Try.prog 22 22 S (.msl id 0 n ex) p = some { v := .int .i64 l.length, S := S.set id (.arr (intRows l ++ rows.drop l.length) g false) } := by
  simp only [copyE, d22, known3, if_true, size3, evCopy, hS, hp.rowsIn, Option.bind_some]
  rw [if_pos ⟨by omega, h2, intRows_ok l⟩]
  have e1 : (intRows l).take n = intRows l := by rw [List.take_of_length_le (by rw [intRows_length]; omega)]
  rw [e1, intRows_length, Nat.min_eq_left h3]
  simp
end Go.Vs
end
/- The ranks of a game, round by round: plain laws. -/
section
set_option linter.unusedVariables false
set_option linter.unusedSimpArgs false
namespace Go.Vs.Rk
/-- A game's positions: who moves, where to, and goals. -/
structure G where
  n : Nat
  owner : Nat → Int
  moves : Nat → List Int
  goal : Nat → Bool
structure G.ok (g : G) : Prop where
  own : ∀ i, i < g.n → g.owner i = 0 ∨ g.owner i = 1
  mv : ∀ i, i < g.n → ∀ m ∈ g.moves i, 0 ≤ m ∧ m < g.n
  inc : ∀ i, i < g.n → (g.moves i).Pairwise (· < ·)
/-- A rank in a list: -1 means none. -/
def rk (R : List Int) (m : Int) : Int := R.getD m.toNat (-1)
def initR (g : G) : List Int := (List.range g.n).map fun i => if g.goal i = true then 0 else -1
def someB (R : List Int) (l : List Int) : Bool := l.any fun m => decide (0 ≤ rk R m)
def everyB (R : List Int) (l : List Int) : Bool := l.all fun m => decide (0 ≤ rk R m)
def hit (g : G) (R : List Int) (i : Nat) : Bool := (decide (g.owner i = 0) && someB R (g.moves i)) || (decide (g.owner i = 1) && everyB R (g.moves i))
/-- One round: those that have rank k. -/
def round (g : G) (k : Int) (R : List Int) : List Int := R.mapIdx fun i r => if 0 ≤ r then r else if hit g R i = true then k else r
/-- So many rounds from round 1 on. -/
def lvl (g : G) : Nat → List Int
  | 0 => initR g
  | r + 1 => round g (r + 1) (lvl g r)
theorem lvl_length (g : G) : ∀ r, (lvl g r).length = g.n
  | 0 => by simp [lvl, initR]
  | r + 1 => by simp [lvl, round, lvl_length g r]
theorem rk_init (g : G) (i : Nat) (h : i < g.n) : rk (initR g) i = if g.goal i = true then 0 else -1 := by
  simp [rk, initR, List.getD_eq_getElem?_getD, h]
theorem rk_round (g : G) (k : Int) (R : List Int) (i : Nat) (h : i < R.length) : rk (round g k R) i = if 0 ≤ rk R i then rk R i else if hit g R i = true then k else rk R i := by
  simp [rk, round, List.getD_eq_getElem?_getD, h]
/-- A rank is -1 or at most the round. -/
theorem rk_range (g : G) : ∀ (r i : Nat), i < g.n → rk (lvl g r) i = -1 ∨ (0 ≤ rk (lvl g r) i ∧ rk (lvl g r) i ≤ r)
  | 0, i, h => by
    rw [lvl, rk_init g i h]
    split
    · exact .inr ⟨by omega, by omega⟩
    · exact .inl rfl
  | r + 1, i, h => by
    have ih := rk_range g r i h
    rw [lvl, rk_round g _ _ _ (by rw [lvl_length]; exact h)]
    split
    · omega
    · split
      · right; omega
      · omega
/-- Ranks stay. -/
theorem rk_stay (g : G) {r i : Nat} (h : i < g.n) (hr : 0 ≤ rk (lvl g r) i) : ∀ d, rk (lvl g (r + d)) i = rk (lvl g r) i
  | 0 => rfl
  | d + 1 => by
    have ih := rk_stay g h hr d
    rw [← Nat.add_assoc, lvl, rk_round g _ _ _ (by rw [lvl_length]; exact h), ih, if_pos hr]
theorem rk_low (g : G) : ∀ (r i : Nat), i < g.n → ∀ s : Nat, 0 ≤ rk (lvl g r) i → rk (lvl g r) i ≤ s → rk (lvl g s) i = rk (lvl g r) i
  | 0, i, h, s, h1, h2 => by
    have := rk_stay g h h1 s
    rwa [Nat.zero_add] at this
  | r + 1, i, h, s, h1, h2 => by
    by_cases hr : 0 ≤ rk (lvl g r) i
    · have e := rk_stay g h hr 1
      rw [e] at h1 h2 ⊢
      exact rk_low g r i h s h1 h2
    · have e : rk (lvl g (r + 1)) i = (r : Int) + 1 := by
        have e2 := rk_round g ((r : Int) + 1) (lvl g r) i (by rw [lvl_length]; exact h)
        rw [if_neg hr] at e2
        rw [lvl] at h1 ⊢
        rw [e2] at h1 ⊢
        split
        · rfl
        · rename_i hh; rw [if_neg hh] at h1; exact absurd h1 hr
      rw [e] at h2
      obtain ⟨d, rfl⟩ : ∃ d, s = r + 1 + d := ⟨s - (r + 1), by omega⟩
      exact rk_stay g h h1 d
/-- Of an unranked position: all ranked moves of player 0 have rank r; of player 1 not all moves are of lower rank, if there are moves or r is not 0. -/
theorem unranked0 (g : G) (hg : g.ok) {r i : Nat} (h : i < g.n) (hu : rk (lvl g r) i < 0) (ho : g.owner i = 0) : ∀ m ∈ g.moves i, 0 ≤ rk (lvl g r) m → rk (lvl g r) m = r := by
  intro m hm h0
  have hmn := hg.mv i h m hm
  obtain ⟨j, rfl⟩ : ∃ j : Nat, m = j := ⟨m.toNat, by omega⟩
  have hj : j < g.n := by omega
  have hr := rk_range g r j hj
  by_cases hlt : rk (lvl g r) j = r
  · exact hlt
  exfalso
  obtain ⟨s, hs⟩ : ∃ s : Nat, rk (lvl g r) j = s := ⟨(rk (lvl g r) j).toNat, by omega⟩
  have hsr : s < r := by omega
  have e := rk_low g r j hj s h0 (by omega)
  -- at round s + 1 the position is hit
  have hhit : hit g (lvl g s) i = true := by
    simp only [hit, ho, decide_true, Bool.true_and, Bool.or_eq_true]
    left
    simp only [someB, List.any_eq_true, decide_eq_true_eq]
    exact ⟨j, hm, by rw [e]; exact h0⟩
  have e2 := rk_round g ((s : Int) + 1) (lvl g s) i (by rw [lvl_length]; exact h)
  have h1 : 0 ≤ rk (lvl g (s + 1)) i := by
    rw [lvl, e2]
    split
    · assumption
    · first | omega | (rw [if_pos hhit]; omega)
  obtain ⟨d, rfl⟩ : ∃ d, r = s + 1 + d := ⟨r - (s + 1), by omega⟩
  rw [rk_stay g h h1 d] at hu
  omega
theorem unranked1 (g : G) (hg : g.ok) {r i : Nat} (h : i < g.n) (hu : rk (lvl g r) i < 0) (ho : g.owner i = 1) (hr : r ≠ 0) : ∃ m ∈ g.moves i, rk (lvl g r) m < 0 ∨ rk (lvl g r) m = r := by
  obtain ⟨s, rfl⟩ : ∃ s, r = s + 1 := ⟨r - 1, by omega⟩
  have e2 := rk_round g ((s : Int) + 1) (lvl g s) i (by rw [lvl_length]; exact h)
  rw [lvl, e2] at hu
  by_cases hh : hit g (lvl g s) i = true
  · exfalso
    split at hu
    · omega
    · first | omega | (rw [if_pos hh] at hu; omega)
  · have hn : everyB (lvl g s) (g.moves i) = false := by
      simp only [hit, ho, decide_true, Bool.true_and, Bool.or_eq_true, not_or, Bool.not_eq_true] at hh
      exact hh.2
    simp only [everyB, List.all_eq_false, decide_eq_true_eq] at hn
    obtain ⟨m, hm, hlt⟩ := hn
    refine ⟨m, hm, ?_⟩
    have hmn := hg.mv i h m hm
    obtain ⟨j, rfl⟩ : ∃ j : Nat, m = j := ⟨m.toNat, by omega⟩
    have e3 := rk_round g ((s : Int) + 1) (lvl g s) j (by rw [lvl_length]; omega)
    rw [lvl, e3, if_neg hlt]
    split
    · right; omega
    · left; omega
/-- Where no position has rank r, a round more gives nothing. -/
theorem stable_step (g : G) (hg : g.ok) {r : Nat} (hr : r ≠ 0) (hno : ∀ i, i < g.n → rk (lvl g r) i ≠ r) : lvl g (r + 1) = lvl g r := by
  apply List.ext_getElem (by rw [lvl_length, lvl_length])
  intro i h1 h2
  rw [lvl_length] at h1
  have e : rk (lvl g (r + 1)) i = rk (lvl g r) i := by
    rw [lvl, rk_round g _ _ _ (by rw [lvl_length]; exact h1)]
    split
    · rfl
    · rename_i hu
      split
      · rename_i hh
        exfalso
        simp only [hit, Bool.or_eq_true, Bool.and_eq_true, decide_eq_true_eq] at hh
        rcases hh with ⟨ho, hs⟩ | ⟨ho, hs⟩
        · simp only [someB, List.any_eq_true, decide_eq_true_eq] at hs
          obtain ⟨m, hm, h0⟩ := hs
          have := unranked0 g hg h1 (by omega) ho m hm h0
          have hmn := hg.mv i h1 m hm
          exact hno m.toNat (by omega) (by rw [show ((m.toNat : Nat) : Int) = m by omega]; exact this)
        · obtain ⟨m, hm, h0⟩ := unranked1 g hg h1 (by omega) ho hr
          simp only [everyB, List.all_eq_true, decide_eq_true_eq] at hs
          have hmn := hg.mv i h1 m hm
          rcases h0 with h0 | h0
          · have := hs m hm; omega
          · exact hno m.toNat (by omega) (by rw [show ((m.toNat : Nat) : Int) = m by omega]; exact h0)
      · rfl
  simpa [rk, List.getD_eq_getElem?_getD, lvl_length, h1] using e
theorem stable (g : G) (hg : g.ok) {r : Nat} (hr : r ≠ 0) (hno : ∀ i, i < g.n → rk (lvl g r) i ≠ r) : ∀ d, lvl g (r + d) = lvl g r
  | 0 => rfl
  | d + 1 => by
    have ih := stable g hg hr hno d
    rw [← Nat.add_assoc]
    have := stable_step g hg (r := r + d) (by omega) (fun i hi h => by
      rw [ih] at h
      have := rk_range g r i hi
      rcases this with h2 | h2
      · omega
      · have hd : d = 0 := by omega
        subst hd
        exact hno i hi h)
    rw [this, ih]
end Go.Vs.Rk
end
