/- tree.Name, tree.Sort, and the reference's: what they return. -/

import Derived.Test.YtnddhkcciphhkaaMD9
import Derived.Test.YtnddhkcciphhkaaMD10
import Derived.Test.YtnddhkcciphhkaaMD11
section
set_option linter.unusedVariables false
set_option linter.unusedSimpArgs false
namespace Go.Vs
open Go Go.Proofs
def isLetter (c : Int) : Bool := decide (97 ≤ c ∧ c ≤ 122 ∨ 65 ≤ c ∧ c ≤ 90)
def isDigit (c : Int) : Bool := decide (48 ≤ c ∧ c ≤ 57)
theorem call66 (c : Int) : callL Try.prog hints 66 [.int .u8 c] = some (.bool (isLetter c)) := by
  refine F66.call (r := (.bool (isLetter c), [])) ?_ rfl
  simp only [go_sem]
  repeat' split
  all_goals (simp [isLetter] <;> omega)
theorem call67 (c : Int) : callL Try.prog hints 67 [.int .u8 c] = some (.bool (isLetter c)) := by
  refine F67.call (r := (.bool (isLetter c), [])) ?_ rfl
  simp only [go_sem]
  repeat' split
  all_goals (simp [isLetter] <;> omega)
@[go_sem] theorem callO66 (S : Store) (c : Int) : callO (callL Try.prog hints) S 66 [.int .u8 c] = some { v := .bool (isLetter c) } := callO_plain (call66 c) (by simp [Plain.int])
@[go_sem] theorem callO67 (S : Store) (c : Int) : callO (callL Try.prog hints) S 67 [.int .u8 c] = some { v := .bool (isLetter c) } := callO_plain (call67 c) (by simp [Plain.int])
/-- From byte i on, letters and digits alone. -/
def restOK (s : ByteArray) : Nat → Nat → Bool
  | 0, i => true
  | m + 1, i => (isLetter (byteAt s i) || isDigit (byteAt s i)) && restOK s m (i + 1)
/-- The first may be a letter alone. -/
def restOK' (s : ByteArray) : Nat → Nat → Bool
  | 0, i => true
  | m + 1, i => (isLetter (byteAt s i) || (decide (i ≠ 0) && isDigit (byteAt s i))) && restOK' s m (i + 1)
theorem restOK'_eq (s : ByteArray) : ∀ (m i : Nat), i ≠ 0 → restOK' s m i = restOK s m i
  | 0, i, h => rfl
  | m + 1, i, h => by simp [restOK, restOK', h, restOK'_eq s m (i + 1) (by omega)]
def keyword (s : ByteArray) : Bool := s.toList == (⟨#[116, 114, 117, 101]⟩ : ByteArray).toList || s.toList == (⟨#[102, 97, 108, 115, 101]⟩ : ByteArray).toList || s.toList == (⟨#[102, 111, 114, 97, 108, 108]⟩ : ByteArray).toList || s.toList == (⟨#[101, 120, 105, 115, 116, 115]⟩ : ByteArray).toList
theorem loop38 (s : ByteArray) (hs : s.size ≤ 12) : ∀ (m i : Nat), i + m = s.size → F38.L0 0 0 (.str s) (.int .i64 i) [] = some (.bool (restOK s m i && !keyword s), []) := by
  intro m
  induction m with
  | zero =>
    intro i hi
    apply F38.L0_step
    have h1 : ¬ (i : Int) < (s.size : Int) := by omega
    simp only [go_sem, h1]
    repeat' split
    all_goals simp_all [restOK, keyword]
  | succ m ih =>
    intro i hi
    apply F38.L0_step
    have h1 : (i : Int) < (s.size : Int) := by omega
    have h2 : IntKind.i64.wrap ((i : Int) + 1) = ((i + 1 : Nat) : Int) := by rw [IntKind.wrap_i64]; omega
    have h3 := ih (i + 1) (by omega)
    have h4 : 0 ≤ (i : Int) ∧ (i : Int) < (s.size : Int) := ⟨by omega, h1⟩
    simp only [go_sem, h1, h2, h3, h4]
    repeat' split
    all_goals (simp_all [restOK, isDigit] <;> omega)
theorem loop39 (s : ByteArray) (hs : s.size ≤ 12) : ∀ (m i : Nat), i + m = s.size → F39.L0 0 0 (.str s) (.int .i64 i) [] = some (.bool (restOK' s m i), []) := by
  intro m
  induction m with
  | zero =>
    intro i hi
    apply F39.L0_step
    have h1 : ¬ (i : Int) < (s.size : Int) := by omega
    simp only [go_sem, h1]
    rfl
  | succ m ih =>
    intro i hi
    apply F39.L0_step
    have h1 : (i : Int) < (s.size : Int) := by omega
    have h2 : IntKind.i64.wrap ((i : Int) + 1) = ((i + 1 : Nat) : Int) := by rw [IntKind.wrap_i64]; omega
    have h3 := ih (i + 1) (by omega)
    have h4 : 0 ≤ (i : Int) ∧ (i : Int) < (s.size : Int) := ⟨by omega, h1⟩
    simp only [go_sem, h1, h2, h3, h4]
    repeat' split
    all_goals (simp_all [restOK', isDigit] <;> omega)
/-- A name. -/
def nameOK (s : ByteArray) : Bool := decide (0 < s.size ∧ s.size ≤ 12) && isLetter (byteAt s 0) && restOK s s.size 0 && !keyword s
theorem call38 (s : ByteArray) : callL Try.prog hints 38 [.str s] = some (.bool (nameOK s)) := by
  refine F38.call (r := (.bool (nameOK s), [])) ?_ rfl
  by_cases h0 : s.size = 0
  · simp [go_sem, h0, nameOK]
  have h5 : ¬ (s.size : Int) = 0 := by omega
  by_cases h1 : s.size ≤ 12
  · have h2 := loop38 s h1 s.size 0 (by omega)
    have h3 : (0 : Int) < (s.size : Int) := by omega
    have h4 : ¬ (12 : Int) < (s.size : Int) := by omega
    simp only [Int.natCast_zero] at h2
    simp only [go_sem, h3, h4, h5, Int.le_refl, List.length_nil, h2, Int.toNat_zero]
    have h6 : 0 < s.size := by omega
    cases h7 : isLetter (byteAt s 0) <;> simp [nameOK, h7, h1, h6]
  · have h4 : (12 : Int) < (s.size : Int) := by omega
    simp only [go_sem, h4, h5]
    simp [nameOK, h1]
theorem call39 (s : ByteArray) : callL Try.prog hints 39 [.str s] = some (.bool (nameOK s)) := by
  refine F39.call (r := (.bool (nameOK s), [])) ?_ rfl
  by_cases h0 : s.size = 0
  · simp [go_sem, h0, nameOK]
  have h5 : ¬ (s.size : Int) = 0 := by omega
  by_cases h1 : s.size ≤ 12
  · have h2 := loop39 s h1 s.size 0 (by omega)
    have h4 : ¬ (12 : Int) < (s.size : Int) := by omega
    simp only [Int.natCast_zero] at h2
    simp only [go_sem, h4, h5, List.length_nil, h2]
    have h6 : 0 < s.size := by omega
    obtain ⟨m, hm⟩ : ∃ m, s.size = m + 1 := ⟨s.size - 1, by omega⟩
    have h7 : restOK' s s.size 0 = (isLetter (byteAt s 0) && restOK s s.size 0) := by
      rw [hm]
      simp only [restOK', restOK, restOK'_eq s m (0 + 1) (by omega)]
      cases isLetter (byteAt s 0) <;> simp
    have h8 : keyword s = (decide (s.toList = (⟨#[116, 114, 117, 101]⟩ : ByteArray).toList) || decide (s.toList = (⟨#[102, 97, 108, 115, 101]⟩ : ByteArray).toList) || decide (s.toList = (⟨#[102, 111, 114, 97, 108, 108]⟩ : ByteArray).toList) || decide (s.toList = (⟨#[101, 120, 105, 115, 116, 115]⟩ : ByteArray).toList)) := by
      simp [keyword, Bool.beq_eq_decide_eq]
    simp only [h7, nameOK, h8, h1, h6, and_self, decide_true, Bool.true_and]
    repeat' split
    all_goals simp_all
  · have h4 : (12 : Int) < (s.size : Int) := by omega
    simp only [go_sem, h4, h5]
    simp [nameOK, h1]
/-- The sort of an operator. -/
def sortOf (n : Int) : Int := if 1 ≤ n ∧ n ≤ 13 then 1 else if 20 ≤ n ∧ n ≤ 39 then 2 else if n = 55 ∨ n = 56 then 4 else if 50 ≤ n ∧ n ≤ 62 then 3 else 0
theorem call40 (n : Int) : callL Try.prog hints 40 [.int .i64 n] = some (.int .i64 (sortOf n)) := by
  refine F40.call (r := (.int .i64 (sortOf n), [])) ?_ rfl
  simp only [go_sem]
  repeat' split
  all_goals (simp [sortOf] <;> omega)
theorem call41 (n : Int) : callL Try.prog hints 41 [.int .i64 n] = some (.int .i64 (sortOf n)) := by
  refine F41.call (r := (.int .i64 (sortOf n), [])) ?_ rfl
  simp only [go_sem]
  repeat' split
  all_goals (simp [sortOf] <;> omega)
@[go_sem] theorem callO38 (S : Store) (s : ByteArray) : callO (callL Try.prog hints) S 38 [.str s] = some { v := .bool (nameOK s) } := callO_plain (call38 s) (by simp [Plain.str])
@[go_sem] theorem callO39 (S : Store) (s : ByteArray) : callO (callL Try.prog hints) S 39 [.str s] = some { v := .bool (nameOK s) } := callO_plain (call39 s) (by simp [Plain.str])
@[go_sem] theorem callO40 (S : Store) (n : Int) : callO (callL Try.prog hints) S 40 [.int .i64 n] = some { v := .int .i64 (sortOf n) } := callO_plain (call40 n) (by simp [Plain.int])
@[go_sem] theorem callO41 (S : Store) (n : Int) : callO (callL Try.prog hints) S 41 [.int .i64 n] = some { v := .int .i64 (sortOf n) } := callO_plain (call41 n) (by simp [Plain.int])
end Go.Vs
end
/- Rules for stores of known arrays. -/
section
set_option linter.unusedVariables false
set_option linter.unusedSimpArgs false
namespace Go.Vs
open Go Go.Proofs
attribute [go_sem] List.all_cons List.all_nil Bool.and_self Bool.and_true Bool.true_and Bool.and_false Bool.false_and decide_true decide_false List.take_succ_cons List.take_zero List.take_nil List.drop_nil List.append_nil List.set_cons_zero List.set_cons_succ ge_iff_le
@[go_sem] theorem pvcells_agg (l : List PV) : PV.cells (.agg l) = l := nr rfl
@[go_sem] theorem pvcells_int (k : IntKind) (n : Int) : PV.cells (.int k n) = [.int k n] := nr rfl
@[go_sem] theorem pvcells_bool (b : Bool) : PV.cells (.bool b) = [.bool b] := nr rfl
@[go_sem] theorem cell_int (k : IntKind) (n : Int) : PV.cell (.int k n) = true := nr rfl
@[go_sem] theorem cell_bool (b : Bool) : PV.cell (.bool b) = true := nr rfl
@[go_sem] theorem refs_undef : PV.refs .undef = [] := nr rfl
@[go_sem] theorem refs_int (k : IntKind) (n : Int) : PV.refs (.int k n) = [] := nr rfl
@[go_sem] theorem refs_bool (b : Bool) : PV.refs (.bool b) = [] := nr rfl
@[go_sem] theorem refs_str (b : ByteArray) : PV.refs (.str b) = [] := nr rfl
@[go_sem] theorem refs_sl (r : List (List PV)) (ex : Bool) : PV.refs (.sl r ex) = [] := nr rfl
@[go_sem] theorem refs_msl (a b c : Nat) (ex : Bool) : PV.refs (.msl a b c ex) = [a] := nr rfl
@[go_sem] theorem refs_mp (a b c : Nat) : PV.refs (.mp a b c) = [a] := nr rfl
@[go_sem] theorem refsL_nil : refsL [] = [] := nr rfl
@[go_sem] theorem refsL_cons (v : PV) (r : List PV) : refsL (v :: r) = v.refs ++ refsL r := nr rfl
@[go_sem] theorem rowsRefs_nil : rowsRefs [] = [] := nr rfl
@[go_sem] theorem rowsRefs_cons (v : List PV) (r : List (List PV)) : rowsRefs (v :: r) = refsL v ++ rowsRefs r := nr rfl
@[go_sem] theorem zeroNode_length : zeroNode.length = 6 := nr rfl
/-- Does all that is seen lie below a number? -/
def seenBelow (n : Nat) : Env → Bool
  | [] => true
  | (_, v) :: r => (v.refs.all fun i => decide (i < n)) && seenBelow n r
def heldBelow (n : Nat) : Nat → Store → Bool
  | 0, _ => true
  | _, [] => true
  | m + 1, .arr rows _ _ :: r => ((rowsRefs rows).all fun i => decide (i < n)) && heldBelow n m r
  | m + 1, .gone :: r => heldBelow n m r
theorem seenBelow_eq (n : Nat) : ∀ e : Env, (e.all fun (_, v) => v.refs.all fun i => decide (i < n)) = seenBelow n e
  | [] => rfl
  | (_, v) :: r => by simp only [List.all_cons, seenBelow, seenBelow_eq n r]
theorem heldBelow_eq (n : Nat) : ∀ (m : Nat) (S : Store), ((S.take m).all fun | .arr rows _ _ => (rowsRefs rows).all fun i => decide (i < n) | .gone => true) = heldBelow n m S
  | 0, S => by simp [heldBelow]
  | m + 1, [] => by simp [heldBelow]
  | m + 1, .arr rows g f :: r => by simp only [List.take_succ_cons, List.all_cons, heldBelow, heldBelow_eq n m r]
  | m + 1, .gone :: r => by simp only [List.take_succ_cons, List.all_cons, heldBelow, heldBelow_eq n m r, Bool.true_and]
@[go_sem] theorem gc_eq (n : Nat) (k : Nat) (v : PV) (e : Env) (o : Obj) (S : Store) : gc n ((k, v) :: e) (o :: S) = if seenBelow n ((k, v) :: e) = true ∧ heldBelow n n (o :: S) = true then (o :: S).take n else o :: S := by
  rw [← seenBelow_eq, ← heldBelow_eq]
  rfl
@[go_sem] theorem seenBelow_nil (n : Nat) : seenBelow n [] = true := nr rfl
@[go_sem] theorem seenBelow_cons (n k : Nat) (v : PV) (r : Env) : seenBelow n ((k, v) :: r) = ((v.refs.all fun i => decide (i < n)) && seenBelow n r) := nr rfl
@[go_sem] theorem heldBelow_zero (n : Nat) (S : Store) : heldBelow n 0 S = true := nr (by cases S <;> rfl)
@[go_sem] theorem heldBelow_nil (n m : Nat) : heldBelow n m [] = true := nr (by cases m <;> rfl)
@[go_sem] theorem heldBelow_cons (n m : Nat) (rows : List (List PV)) (g : Option (Option Nat)) (f : Bool) (r : Store) : heldBelow n (m + 1) (.arr rows g f :: r) = (((rowsRefs rows).all fun i => decide (i < n)) && heldBelow n m r) := nr rfl
@[go_sem] theorem storeE_eq (ti : TI) (S : Store) (a v : PV) : storeE ti S a v = if ti.known = true then (evStore ti.size S a v).map fun S => { v := .skip, S } else none := nr rfl
@[go_sem] theorem evStore_zero (n : Nat) (rows : List (List PV)) (g : Option (Option Nat)) (S : Store) (i off : Nat) (v : PV) : evStore n (.arr rows g false :: S) (.mp 0 i off) v =
    if i < rows.length ∧ off + n ≤ (rows.getD i []).length ∧ v.cells.length = n ∧ v.cells.all PV.cell = true then some (.arr (rows.set i (splice (rows.getD i []) off v.cells)) g false :: S) else none := nr rfl
@[go_sem] theorem evStore_succ (n : Nat) (o : Obj) (S : Store) (id i off : Nat) (v : PV) : evStore n (o :: S) (.mp (id + 1) i off) v = (evStore n S (.mp id i off) v).map fun S => o :: S := by
  simp only [evStore, List.getElem?_cons_succ]
  cases h : S[id]? with
  | none => rfl
  | some q =>
    cases q with
    | gone => rfl
    | arr rows g f =>
      cases f with
      | true => rfl
      | false =>
        simp only
        split <;> simp
@[go_sem] theorem splice_if (row : List PV) (off : Nat) (cs : List PV) : splice row off cs = if off = 0 ∧ cs.length = row.length then cs else row.take off ++ cs ++ row.drop (off + cs.length) := nr rfl
attribute [go_sem] Nat.le_refl
theorem iteEq {α : Type} {c : Prop} [Decidable c] {a b v : α} (h1 : c → a = v) (h2 : ¬ c → b = v) : (if c then a else b) = v := by
  by_cases h : c
  · rw [if_pos h]; exact h1 h
  · rw [if_neg h]; exact h2 h
theorem iteBind {α β : Type} {c : Prop} [Decidable c] {a b : Option α} {f : α → Option β} {v : Option β} (h1 : c → a.bind f = v) (h2 : ¬ c → b.bind f = v) : (if c then a else b).bind f = v := by
  by_cases h : c
  · rw [if_pos h]; exact h1 h
  · rw [if_neg h]; exact h2 h
theorem bindCall {x : Option (PV × Store)} {y : Option PV} {v : PV} (hc : ∀ {r : PV × Store} {v : PV}, x = some r → fzPV r.2 r.1 = some v → y = some v) (h : (x.bind fun r => fzPV r.2 r.1) = some v) : y = some v := by
  obtain ⟨r, h1, h2⟩ := bind_some h
  exact hc h1 h2
@[go_sem] theorem buildSlice22 (id n : Nat) (is : List Nat) (rows : List (List PV)) : buildSliceO Try.prog 22 id n is rows = if is = List.range n ∧ rowsOK 1 rows = true ∧ (rows.all fun r => r.all PV.cell) = true ∧ n * 1 ≤ 16777216 then some { v := .msl id 0 n true, new := some (rows, some (some 1)) } else none := by
  have e : (tyi Try.prog 3).zero.isSome = true := by kernel_rfl
  simp [buildSliceO, d22, size3, e]
@[go_sem] theorem rowsOK_nil (n : Nat) : rowsOK n [] = true := nr rfl
@[go_sem] theorem rowsOK_cons (n : Nat) (r : List PV) (l : List (List PV)) : rowsOK n (r :: l) = (r.length == n && rowsOK n l) := nr rfl
@[go_sem] theorem range0 : List.range 0 = [] := nr rfl
attribute [go_sem] beq_self_eq_true
end Go.Vs
end
/- Printed by a program of mine (stage1.py): the functions 35, 43, 44, 45, piece by piece. -/
section
set_option linter.unusedVariables false
set_option linter.unusedSimpArgs false
namespace Go.Vs
open Go Go.Proofs

/-! ### isochroneref08.Size -/
namespace F35
def hint : Hint := { keep := [], loops := [(0, { live := [1, 3, 4], after := [3], own := [], fz := [] })], regs := [(0, [1]), (1, [1, 3]), (2, [1, 3, 4]), (3, [1, 3, 4, 9]), (4, [1, 3, 4]), (5, [1, 3, 4]), (6, [2])] }
noncomputable def C (b : Nat) : Ctx := ctxL Try.prog hints b hint
noncomputable def code : Code := Try.f35.body.get rfl
noncomputable def k0 (b : Nat) : KT := endC Try.prog Try.f35
def ee0 (x1 : PV) : Env := [(1, x1)]
def ee1 (x1 x3 : PV) : Env := [(1, x1), (3, x3)]
def ee2 (x1 x3 x4 : PV) : Env := [(1, x1), (3, x3), (4, x4)]
@[go_sem] theorem gc_ee2 (n : Nat) (x1 x3 x4 : PV) (S : Store) : gc n (ee2 x1 x3 x4) S = gc n [(1, x1), (3, x3), (4, x4)] S := nr (rfl)
def ee3 (x1 x3 x4 x9 : PV) : Env := [(1, x1), (3, x3), (4, x4), (9, x9)]
@[go_sem] theorem gc_ee3 (n : Nat) (x1 x3 x4 x9 : PV) (S : Store) : gc n (ee3 x1 x3 x4 x9) S = gc n [(1, x1), (3, x3), (4, x4), (9, x9)] S := nr (rfl)
def ee4 (x2 : PV) : Env := [(2, x2)]
@[go_sem] theorem k0_ret4 (b : Nat) (x2 : PV) (S : Store) : k0 b .ret (ee4 x2) S = some (x2, S) := nr (by kernel_rfl)
noncomputable def c1 : Code := at0 code
noncomputable def c2 : Code := at1 code
theorem code_h : code = .seq c1 c2 := by kernel_rfl
noncomputable def c3 : Code := at0 c2
noncomputable def c4 : Code := at1 c2
theorem c2_h : c2 = .seq c3 c4 := by kernel_rfl
noncomputable def c5 : Code := at0 c4
noncomputable def c6 : Code := at1 c4
theorem c4_h : c4 = .seq c5 c6 := by kernel_rfl
noncomputable def c7 : Code := at0 c6
noncomputable def c8 : Code := at1 c6
theorem c6_h : c6 = .seq c7 c8 := by kernel_rfl
noncomputable def k9 (b : Nat) : KT := seqC (fun e S => execL (C b) 0 c8 (k0 b) e S) (k0 b)
@[go_sem] theorem k9_n (b : Nat) (x2 : PV) (S : Store) : k9 b .normal (ee4 x2) S =
  (k0 b) .ret (ee4 x2) S := nr ((show k9 b .normal (ee4 x2) S = execL (C b) 0 c8 (k0 b) (ee4 x2) S from seqC_n _ _ _ _).trans (execL_ret (by kernel_rfl)))
theorem k9_l (b : Nat) : seqC (fun e S => execL (C b) 0 c8 (k0 b) e S) (k0 b) = k9 b := rfl
noncomputable def k10 (b : Nat) : KT := seqC (fun e S => execL (C b) 0 c7 (k9 b) e S) (k0 b)
@[go_sem] theorem g11 (b : Nat) (K : KT) (x1 x3 x4 x9 : PV) (S : Store) : execL (C b) 0 c7 K (ee3 x1 x3 x4 x9) S =
  withV (some x3) fun x20 =>
    withV (some x20) fun x2 =>
    K .normal (ee4 x2) S := nr (by kernel_rfl)
@[go_sem] theorem k10_n (b : Nat) (e : Env) (S : Store) : k10 b .normal e S = execL (C b) 0 c7 (k9 b) e S := nr (seqC_n _ _ _ _)
theorem k10_l (b : Nat) : seqC (fun e S => execL (C b) 0 c6 (k0 b) e S) (k0 b) = k10 b := link_seq c6_h (k9_l b)
noncomputable def k12 (b : Nat) : KT := seqC (fun e S => execL (C b) 0 c5 (k10 b) e S) (k0 b)
noncomputable def c13 : Code := at0 c5
noncomputable def c14 : Code := at1 c5
theorem c5_h : c5 = .seq c13 c14 := by kernel_rfl
noncomputable def k15 (b : Nat) : KT := seqC (fun e S => execL (C b) 0 c14 (k10 b) e S) (k10 b)
noncomputable def c16 : Code := atB c14
theorem c14_h : c14 = .block 0 c16 := by kernel_rfl
noncomputable def k17 (b : Nat) : KT := blockC 0 (k10 b)
@[go_sem] theorem k17_exit (b : Nat) (i : Nat) (e : Env) (S : Store) : k17 b (.exit i) e S = if i = 0 then (k10 b) .normal e S else (k10 b) (.exit i) e S := nr (blockC_x _ _ _ _ _)
noncomputable def c18 : Code := atL c16
noncomputable def k19 (b n0 : Nat) : KT := afterC 0 n0 [3] (k17 b)
noncomputable def L0g (b n0 : Nat) (e : Env) (S : Store) : RT := loopL (fun K e S => execL (C b) 0 c18 K e S) (normG [1, 3, 4] [] n0) (k19 b n0) e S
noncomputable def L0 (b n0 : Nat) (x1 x3 x4 : PV) (S : Store) : RT := L0g b n0 (ee2 x1 x3 x4) S
noncomputable def k20 (b n0 : Nat) : KT := stepC (normG [1, 3, 4] [] n0) (k19 b n0) (L0g b n0)
@[go_sem] theorem k20_n (b n0 : Nat) (x1 x3 x4 : PV) (S : Store) : k20 b n0 .normal (ee2 x1 x3 x4) S = L0 b n0 x1 x3 x4 (gc n0 (ee2 x1 x3 x4) S) := nr (by kernel_rfl)
@[go_sem] theorem k20_x1 (b n0 : Nat) (x1 x3 x4 x9 : PV) (S : Store) : k20 b n0 (.exit 0) (ee3 x1 x3 x4 x9) S = (k17 b) (.exit 0) (ee3 .undef x3 .undef .undef) (gc n0 (ee3 .undef x3 .undef .undef) S) := nr ((show k20 b n0 (.exit 0) (ee3 x1 x3 x4 x9) S = (k19 b n0) (.exit 0) (ee3 x1 x3 x4 x9) S from stepC_x _ _ _ _ _ _).trans ((show (k19 b n0) (.exit 0) (ee3 x1 x3 x4 x9) S = _ from afterC_x _ _ _ _ _ _ _).trans (if_pos rfl)))
noncomputable def c21 : Code := at0 c18
noncomputable def c22 : Code := at1 c18
theorem c18_h : c18 = .seq c21 c22 := by kernel_rfl
noncomputable def c23 : Code := at0 c22
noncomputable def c24 : Code := at1 c22
theorem c22_h : c22 = .seq c23 c24 := by kernel_rfl
noncomputable def k25 (b n0 : Nat) : KT := seqC (fun e S => execL (C b) 0 c24 (k20 b n0) e S) (k20 b n0)
@[go_sem] theorem g26 (b : Nat) (K : KT) (x1 x3 x4 : PV) (S : Store) : execL (C b) 0 c24 K (ee2 x1 x3 x4) S =
  withV (some x4) fun x10 =>
    withV (evBin .add (tyi Try.prog 3) x10 (.int .i64 1)) fun x11 =>
    withV (some x11) fun x4 =>
    K .normal (ee2 x1 x3 x4) S := nr (by kernel_rfl)
@[go_sem] theorem k25_n (b n0 : Nat) (e : Env) (S : Store) : k25 b n0 .normal e S = execL (C b) 0 c24 (k20 b n0) e S := nr (seqC_n _ _ _ _)
theorem k25_l (b n0 : Nat) : seqC (fun e S => execL (C b) 0 c24 (k20 b n0) e S) (k20 b n0) = k25 b n0 := rfl
noncomputable def k27 (b n0 : Nat) : KT := seqC (fun e S => execL (C b) 0 c23 (k25 b n0) e S) (k20 b n0)
noncomputable def c28 : Code := atB c23
theorem c23_h : c23 = .block 1 c28 := by kernel_rfl
noncomputable def k29 (b n0 : Nat) : KT := blockC 1 (k25 b n0)
@[go_sem] theorem k29_n (b n0 : Nat) (e : Env) (S : Store) : k29 b n0 .normal e S = (k25 b n0) .normal e S := nr (blockC_n _ _ _ _)
@[go_sem] theorem g30 (b : Nat) (K : KT) (x1 x3 x4 x9 : PV) (S : Store) : execL (C b) 1 c28 K (ee3 x1 x3 x4 x9) S =
  withV (some x3) fun x12 =>
    withV (evFieldAddr (tyi Try.prog 54) 3 x1) fun x13 =>
    withV (evLoad (tyi Try.prog 52) S x13) fun x14 =>
    withV (some x4) fun x15 =>
    withV (indexAddrO Try.prog 52 S x14 x15) fun x16 =>
    withV (evLoad (tyi Try.prog 54) S x16) fun x17 =>
    withN (callO (callL Try.prog hints) S 35 [x17]) S fun x18 S =>
    withV (evBin .add (tyi Try.prog 3) x12 x18) fun x19 =>
    withV (some x19) fun x3 =>
    K .normal (ee2 x1 x3 x4) S := nr (by kernel_rfl)
@[go_sem] theorem k27_n (b n0 : Nat) (x1 x3 x4 x9 : PV) (S : Store) : k27 b n0 .normal (ee3 x1 x3 x4 x9) S =
  execL (C b) 1 c28 (k29 b n0) (ee3 x1 x3 x4 x9) S := nr ((show k27 b n0 .normal (ee3 x1 x3 x4 x9) S = execL (C b) 0 c23 (k25 b n0) (ee3 x1 x3 x4 x9) S from seqC_n _ _ _ _).trans ((show execL (C b) 0 c23 (k25 b n0) (ee3 x1 x3 x4 x9) S = execL (C b) 1 c28 (k29 b n0) (ee3 x1 x3 x4 x9) S from execL_block c23_h).trans (rfl)))
@[go_sem] theorem k27_exit (b n0 : Nat) (i : Nat) (e : Env) (S : Store) : k27 b n0 (.exit i) e S = (k20 b n0) (.exit i) e S := nr (seqC_x _ _ _ _ _)
theorem k27_l (b n0 : Nat) : seqC (fun e S => execL (C b) 0 c22 (k20 b n0) e S) (k20 b n0) = k27 b n0 := link_seq c22_h (k25_l b n0)
noncomputable def c31 : Code := at0 c21
noncomputable def c32 : Code := at1 c21
theorem c21_h : c21 = .seq c31 c32 := by kernel_rfl
noncomputable def k33 (b n0 : Nat) : KT := seqC (fun e S => execL (C b) 0 c32 (k27 b n0) e S) (k27 b n0)
noncomputable def c34 : Code := atT c32
noncomputable def c35 : Code := atF c32
theorem c32_h : c32 = .cond (.tmp 9) c34 c35 := by kernel_rfl
@[go_sem] theorem k33_n (b n0 : Nat) (x1 x3 x4 x9 : PV) (S : Store) : k33 b n0 .normal (ee3 x1 x3 x4 x9) S =
  condC x9 ((k27 b n0) .normal (ee3 x1 x3 x4 x9) S)
    ((k27 b n0) (.exit 0) (ee3 x1 x3 x4 x9) S) := nr ((show k33 b n0 .normal (ee3 x1 x3 x4 x9) S = execL (C b) 0 c32 (k27 b n0) (ee3 x1 x3 x4 x9) S from seqC_n _ _ _ _).trans (execL_cond c32_h (execL_skip (by kernel_rfl)) (execL_exit (by kernel_rfl)) rfl))
theorem k33_l (b n0 : Nat) : seqC (fun e S => execL (C b) 0 c32 (k27 b n0) e S) (k27 b n0) = k33 b n0 := rfl
@[go_sem] theorem g36 (b : Nat) (K : KT) (x1 x3 x4 : PV) (S : Store) : execL (C b) 0 c31 K (ee2 x1 x3 x4) S =
  withV (some x4) fun x5 =>
    withV (evFieldAddr (tyi Try.prog 54) 3 x1) fun x6 =>
    withV (evLoad (tyi Try.prog 52) S x6) fun x7 =>
    withV (lenO (tyi Try.prog 52) x7) fun x8 =>
    withV (evBin .lss (tyi Try.prog 3) x5 x8) fun x9 =>
    K .normal (ee3 x1 x3 x4 x9) S := nr (by kernel_rfl)
noncomputable def B0 (b n0 : Nat) (x1 x3 x4 : PV) (S : Store) : RT := execL (C b) 0 c18 (k20 b n0) (ee2 x1 x3 x4) S
@[go_sem] theorem B0_eq (b n0 : Nat) (x1 x3 x4 : PV) (S : Store) : B0 b n0 x1 x3 x4 S =
  execL (C b) 0 c31 (k33 b n0) (ee2 x1 x3 x4) S := nr ((enter_seq c18_h (k27_l b n0)).trans ((enter_seq c21_h (k33_l b n0)).trans (rfl)))
theorem L0_step {b n0 : Nat} {x1 x3 x4 : PV} {S : Store} {z : PV × Store} (h : B0 b n0 x1 x3 x4 S = some z) : L0 b n0 x1 x3 x4 S = some z := loopL_step h
theorem L0_in (b : Nat) (x1 x3 x4 : PV) (S : Store) : execL (C b) 0 c16 (k17 b) (ee2 x1 x3 x4) S = L0 b (List.length S) x1 x3 x4 S := by kernel_rfl
@[go_sem] theorem k15_n (b : Nat) (x1 x3 x4 : PV) (S : Store) : k15 b .normal (ee2 x1 x3 x4) S =
  L0 b (List.length S) x1 x3 x4 S := nr ((show k15 b .normal (ee2 x1 x3 x4) S = execL (C b) 0 c14 (k10 b) (ee2 x1 x3 x4) S from seqC_n _ _ _ _).trans ((show execL (C b) 0 c14 (k10 b) (ee2 x1 x3 x4) S = execL (C b) 0 c16 (k17 b) (ee2 x1 x3 x4) S from execL_block c14_h).trans (L0_in b x1 x3 x4 S)))
theorem k15_l (b : Nat) : seqC (fun e S => execL (C b) 0 c14 (k10 b) e S) (k10 b) = k15 b := rfl
@[go_sem] theorem g38 (b : Nat) (K : KT) (x1 x3 : PV) (S : Store) : execL (C b) 0 c13 K (ee1 x1 x3) S =
  withV (some (.int .i64 0)) fun x4 =>
    K .normal (ee2 x1 x3 x4) S := nr (by kernel_rfl)
@[go_sem] theorem k12_n (b : Nat) (x1 x3 : PV) (S : Store) : k12 b .normal (ee1 x1 x3) S =
  execL (C b) 0 c13 (k15 b) (ee1 x1 x3) S := nr ((show k12 b .normal (ee1 x1 x3) S = execL (C b) 0 c5 (k10 b) (ee1 x1 x3) S from seqC_n _ _ _ _).trans ((enter_seq c5_h (k15_l b)).trans (rfl)))
theorem k12_l (b : Nat) : seqC (fun e S => execL (C b) 0 c4 (k0 b) e S) (k0 b) = k12 b := link_seq c4_h (k10_l b)
noncomputable def k39 (b : Nat) : KT := seqC (fun e S => execL (C b) 0 c3 (k12 b) e S) (k0 b)
@[go_sem] theorem g40 (b : Nat) (K : KT) (x1 : PV) (S : Store) : execL (C b) 0 c3 K (ee0 x1) S =
  withV (some (.int .i64 1)) fun x3 =>
    K .normal (ee1 x1 x3) S := nr (by kernel_rfl)
@[go_sem] theorem k39_n (b : Nat) (e : Env) (S : Store) : k39 b .normal e S = execL (C b) 0 c3 (k12 b) e S := nr (seqC_n _ _ _ _)
theorem k39_l (b : Nat) : seqC (fun e S => execL (C b) 0 c2 (k0 b) e S) (k0 b) = k39 b := link_seq c2_h (k12_l b)
@[go_sem] theorem g41 (b : Nat) (K : KT) (x0 : PV) (S : Store) : execL (C b) 0 c1 K [(0, x0)] S =
  withN (boxed S (List.length S) (TI.size (tyi Try.prog 54)) x0) S fun x1 S =>
    withV (some (.int .i64 0)) fun x2 =>
    K .normal (ee0 x1) S := nr (by kernel_rfl)
noncomputable def E (b : Nat) (x0 : PV) (S : Store) : RT := execL (C b) 0 code (k0 b) [(0, x0)] S
@[go_sem] theorem E_eq (b : Nat) (x0 : PV) (S : Store) : E b x0 S =
  execL (C b) 0 c1 (k39 b) [(0, x0)] S := nr ((enter_seq code_h (k39_l b)).trans (rfl))
theorem call {x0 : PV} {r : PV × Store} {v : PV} (h : E 0 x0 [] = some r) (hv : fzPV r.2 r.1 = some v) : callL Try.prog hints 35 [x0] = some v := callL_of (fn := Try.f35) (c := code) (by kernel_rfl) (by kernel_rfl) (by decide) (by kernel_rfl) (Nat.le_of_ble_eq_true (by kernel_rfl)) h hv
end F35
/-! ### tree.Size -/
namespace F43
end F43
/-! ### tree.Levels -/
namespace F44
end F44
/-! ### isochroneref08.Levels -/
namespace F45
def hint : Hint := { keep := [], loops := [(0, { live := [1, 3, 4], after := [3], own := [], fz := [] })], regs := [(0, [1]), (1, [1, 3]), (2, [1, 3, 4]), (3, [1, 3, 4, 9]), (4, [1, 3, 4]), (5, [1, 3, 4]), (6, [2])] }
noncomputable def C (b : Nat) : Ctx := ctxL Try.prog hints b hint
noncomputable def code : Code := Try.f45.body.get rfl
noncomputable def k0 (b : Nat) : KT := endC Try.prog Try.f45
def ee0 (x1 : PV) : Env := [(1, x1)]
def ee1 (x1 x3 : PV) : Env := [(1, x1), (3, x3)]
def ee2 (x1 x3 x4 : PV) : Env := [(1, x1), (3, x3), (4, x4)]
@[go_sem] theorem gc_ee2 (n : Nat) (x1 x3 x4 : PV) (S : Store) : gc n (ee2 x1 x3 x4) S = gc n [(1, x1), (3, x3), (4, x4)] S := nr (rfl)
def ee3 (x1 x3 x4 x9 : PV) : Env := [(1, x1), (3, x3), (4, x4), (9, x9)]
@[go_sem] theorem gc_ee3 (n : Nat) (x1 x3 x4 x9 : PV) (S : Store) : gc n (ee3 x1 x3 x4 x9) S = gc n [(1, x1), (3, x3), (4, x4), (9, x9)] S := nr (rfl)
def ee4 (x2 : PV) : Env := [(2, x2)]
@[go_sem] theorem k0_ret4 (b : Nat) (x2 : PV) (S : Store) : k0 b .ret (ee4 x2) S = some (x2, S) := nr (by kernel_rfl)
noncomputable def c1 : Code := at0 code
noncomputable def c2 : Code := at1 code
theorem code_h : code = .seq c1 c2 := by kernel_rfl
noncomputable def c3 : Code := at0 c2
noncomputable def c4 : Code := at1 c2
theorem c2_h : c2 = .seq c3 c4 := by kernel_rfl
noncomputable def c5 : Code := at0 c4
noncomputable def c6 : Code := at1 c4
theorem c4_h : c4 = .seq c5 c6 := by kernel_rfl
noncomputable def c7 : Code := at0 c6
noncomputable def c8 : Code := at1 c6
theorem c6_h : c6 = .seq c7 c8 := by kernel_rfl
noncomputable def k9 (b : Nat) : KT := seqC (fun e S => execL (C b) 0 c8 (k0 b) e S) (k0 b)
@[go_sem] theorem k9_n (b : Nat) (x2 : PV) (S : Store) : k9 b .normal (ee4 x2) S =
  (k0 b) .ret (ee4 x2) S := nr ((show k9 b .normal (ee4 x2) S = execL (C b) 0 c8 (k0 b) (ee4 x2) S from seqC_n _ _ _ _).trans (execL_ret (by kernel_rfl)))
theorem k9_l (b : Nat) : seqC (fun e S => execL (C b) 0 c8 (k0 b) e S) (k0 b) = k9 b := rfl
noncomputable def k10 (b : Nat) : KT := seqC (fun e S => execL (C b) 0 c7 (k9 b) e S) (k0 b)
@[go_sem] theorem g11 (b : Nat) (K : KT) (x1 x3 x4 x9 : PV) (S : Store) : execL (C b) 0 c7 K (ee3 x1 x3 x4 x9) S =
  withV (some x3) fun x20 =>
    withV (evBin .add (tyi Try.prog 3) x20 (.int .i64 1)) fun x21 =>
    withV (some x21) fun x2 =>
    K .normal (ee4 x2) S := nr (by kernel_rfl)
@[go_sem] theorem k10_n (b : Nat) (e : Env) (S : Store) : k10 b .normal e S = execL (C b) 0 c7 (k9 b) e S := nr (seqC_n _ _ _ _)
theorem k10_l (b : Nat) : seqC (fun e S => execL (C b) 0 c6 (k0 b) e S) (k0 b) = k10 b := link_seq c6_h (k9_l b)
noncomputable def k12 (b : Nat) : KT := seqC (fun e S => execL (C b) 0 c5 (k10 b) e S) (k0 b)
noncomputable def c13 : Code := at0 c5
noncomputable def c14 : Code := at1 c5
theorem c5_h : c5 = .seq c13 c14 := by kernel_rfl
noncomputable def k15 (b : Nat) : KT := seqC (fun e S => execL (C b) 0 c14 (k10 b) e S) (k10 b)
noncomputable def c16 : Code := atB c14
theorem c14_h : c14 = .block 0 c16 := by kernel_rfl
noncomputable def k17 (b : Nat) : KT := blockC 0 (k10 b)
@[go_sem] theorem k17_exit (b : Nat) (i : Nat) (e : Env) (S : Store) : k17 b (.exit i) e S = if i = 0 then (k10 b) .normal e S else (k10 b) (.exit i) e S := nr (blockC_x _ _ _ _ _)
noncomputable def c18 : Code := atL c16
noncomputable def k19 (b n0 : Nat) : KT := afterC 0 n0 [3] (k17 b)
noncomputable def L0g (b n0 : Nat) (e : Env) (S : Store) : RT := loopL (fun K e S => execL (C b) 0 c18 K e S) (normG [1, 3, 4] [] n0) (k19 b n0) e S
noncomputable def L0 (b n0 : Nat) (x1 x3 x4 : PV) (S : Store) : RT := L0g b n0 (ee2 x1 x3 x4) S
noncomputable def k20 (b n0 : Nat) : KT := stepC (normG [1, 3, 4] [] n0) (k19 b n0) (L0g b n0)
@[go_sem] theorem k20_n (b n0 : Nat) (x1 x3 x4 : PV) (S : Store) : k20 b n0 .normal (ee2 x1 x3 x4) S = L0 b n0 x1 x3 x4 (gc n0 (ee2 x1 x3 x4) S) := nr (by kernel_rfl)
@[go_sem] theorem k20_x1 (b n0 : Nat) (x1 x3 x4 x9 : PV) (S : Store) : k20 b n0 (.exit 0) (ee3 x1 x3 x4 x9) S = (k17 b) (.exit 0) (ee3 .undef x3 .undef .undef) (gc n0 (ee3 .undef x3 .undef .undef) S) := nr ((show k20 b n0 (.exit 0) (ee3 x1 x3 x4 x9) S = (k19 b n0) (.exit 0) (ee3 x1 x3 x4 x9) S from stepC_x _ _ _ _ _ _).trans ((show (k19 b n0) (.exit 0) (ee3 x1 x3 x4 x9) S = _ from afterC_x _ _ _ _ _ _ _).trans (if_pos rfl)))
noncomputable def c21 : Code := at0 c18
noncomputable def c22 : Code := at1 c18
theorem c18_h : c18 = .seq c21 c22 := by kernel_rfl
noncomputable def c23 : Code := at0 c22
noncomputable def c24 : Code := at1 c22
theorem c22_h : c22 = .seq c23 c24 := by kernel_rfl
noncomputable def k25 (b n0 : Nat) : KT := seqC (fun e S => execL (C b) 0 c24 (k20 b n0) e S) (k20 b n0)
@[go_sem] theorem g26 (b : Nat) (K : KT) (x1 x3 x4 : PV) (S : Store) : execL (C b) 0 c24 K (ee2 x1 x3 x4) S =
  withV (some x4) fun x10 =>
    withV (evBin .add (tyi Try.prog 3) x10 (.int .i64 1)) fun x11 =>
    withV (some x11) fun x4 =>
    K .normal (ee2 x1 x3 x4) S := nr (by kernel_rfl)
@[go_sem] theorem k25_n (b n0 : Nat) (e : Env) (S : Store) : k25 b n0 .normal e S = execL (C b) 0 c24 (k20 b n0) e S := nr (seqC_n _ _ _ _)
theorem k25_l (b n0 : Nat) : seqC (fun e S => execL (C b) 0 c24 (k20 b n0) e S) (k20 b n0) = k25 b n0 := rfl
noncomputable def k27 (b n0 : Nat) : KT := seqC (fun e S => execL (C b) 0 c23 (k25 b n0) e S) (k20 b n0)
noncomputable def c28 : Code := atB c23
theorem c23_h : c23 = .block 1 c28 := by kernel_rfl
noncomputable def k29 (b n0 : Nat) : KT := blockC 1 (k25 b n0)
@[go_sem] theorem k29_n (b n0 : Nat) (e : Env) (S : Store) : k29 b n0 .normal e S = (k25 b n0) .normal e S := nr (blockC_n _ _ _ _)
@[go_sem] theorem g30 (b : Nat) (K : KT) (x1 x3 x4 x9 : PV) (S : Store) : execL (C b) 1 c28 K (ee3 x1 x3 x4 x9) S =
  withV (some x3) fun x12 =>
    withV (evFieldAddr (tyi Try.prog 54) 3 x1) fun x13 =>
    withV (evLoad (tyi Try.prog 52) S x13) fun x14 =>
    withV (some x4) fun x15 =>
    withV (indexAddrO Try.prog 52 S x14 x15) fun x16 =>
    withV (evLoad (tyi Try.prog 54) S x16) fun x17 =>
    withN (callO (callL Try.prog hints) S 45 [x17]) S fun x18 S =>
    withV (maxO [x12, x18]) fun x19 =>
    withV (some x19) fun x3 =>
    K .normal (ee2 x1 x3 x4) S := nr (by kernel_rfl)
@[go_sem] theorem k27_n (b n0 : Nat) (x1 x3 x4 x9 : PV) (S : Store) : k27 b n0 .normal (ee3 x1 x3 x4 x9) S =
  execL (C b) 1 c28 (k29 b n0) (ee3 x1 x3 x4 x9) S := nr ((show k27 b n0 .normal (ee3 x1 x3 x4 x9) S = execL (C b) 0 c23 (k25 b n0) (ee3 x1 x3 x4 x9) S from seqC_n _ _ _ _).trans ((show execL (C b) 0 c23 (k25 b n0) (ee3 x1 x3 x4 x9) S = execL (C b) 1 c28 (k29 b n0) (ee3 x1 x3 x4 x9) S from execL_block c23_h).trans (rfl)))
@[go_sem] theorem k27_exit (b n0 : Nat) (i : Nat) (e : Env) (S : Store) : k27 b n0 (.exit i) e S = (k20 b n0) (.exit i) e S := nr (seqC_x _ _ _ _ _)
theorem k27_l (b n0 : Nat) : seqC (fun e S => execL (C b) 0 c22 (k20 b n0) e S) (k20 b n0) = k27 b n0 := link_seq c22_h (k25_l b n0)
noncomputable def c31 : Code := at0 c21
noncomputable def c32 : Code := at1 c21
theorem c21_h : c21 = .seq c31 c32 := by kernel_rfl
noncomputable def k33 (b n0 : Nat) : KT := seqC (fun e S => execL (C b) 0 c32 (k27 b n0) e S) (k27 b n0)
noncomputable def c34 : Code := atT c32
noncomputable def c35 : Code := atF c32
theorem c32_h : c32 = .cond (.tmp 9) c34 c35 := by kernel_rfl
@[go_sem] theorem k33_n (b n0 : Nat) (x1 x3 x4 x9 : PV) (S : Store) : k33 b n0 .normal (ee3 x1 x3 x4 x9) S =
  condC x9 ((k27 b n0) .normal (ee3 x1 x3 x4 x9) S)
    ((k27 b n0) (.exit 0) (ee3 x1 x3 x4 x9) S) := nr ((show k33 b n0 .normal (ee3 x1 x3 x4 x9) S = execL (C b) 0 c32 (k27 b n0) (ee3 x1 x3 x4 x9) S from seqC_n _ _ _ _).trans (execL_cond c32_h (execL_skip (by kernel_rfl)) (execL_exit (by kernel_rfl)) rfl))
theorem k33_l (b n0 : Nat) : seqC (fun e S => execL (C b) 0 c32 (k27 b n0) e S) (k27 b n0) = k33 b n0 := rfl
@[go_sem] theorem g36 (b : Nat) (K : KT) (x1 x3 x4 : PV) (S : Store) : execL (C b) 0 c31 K (ee2 x1 x3 x4) S =
  withV (some x4) fun x5 =>
    withV (evFieldAddr (tyi Try.prog 54) 3 x1) fun x6 =>
    withV (evLoad (tyi Try.prog 52) S x6) fun x7 =>
    withV (lenO (tyi Try.prog 52) x7) fun x8 =>
    withV (evBin .lss (tyi Try.prog 3) x5 x8) fun x9 =>
    K .normal (ee3 x1 x3 x4 x9) S := nr (by kernel_rfl)
noncomputable def B0 (b n0 : Nat) (x1 x3 x4 : PV) (S : Store) : RT := execL (C b) 0 c18 (k20 b n0) (ee2 x1 x3 x4) S
@[go_sem] theorem B0_eq (b n0 : Nat) (x1 x3 x4 : PV) (S : Store) : B0 b n0 x1 x3 x4 S =
  execL (C b) 0 c31 (k33 b n0) (ee2 x1 x3 x4) S := nr ((enter_seq c18_h (k27_l b n0)).trans ((enter_seq c21_h (k33_l b n0)).trans (rfl)))
theorem L0_step {b n0 : Nat} {x1 x3 x4 : PV} {S : Store} {z : PV × Store} (h : B0 b n0 x1 x3 x4 S = some z) : L0 b n0 x1 x3 x4 S = some z := loopL_step h
theorem L0_in (b : Nat) (x1 x3 x4 : PV) (S : Store) : execL (C b) 0 c16 (k17 b) (ee2 x1 x3 x4) S = L0 b (List.length S) x1 x3 x4 S := by kernel_rfl
@[go_sem] theorem k15_n (b : Nat) (x1 x3 x4 : PV) (S : Store) : k15 b .normal (ee2 x1 x3 x4) S =
  L0 b (List.length S) x1 x3 x4 S := nr ((show k15 b .normal (ee2 x1 x3 x4) S = execL (C b) 0 c14 (k10 b) (ee2 x1 x3 x4) S from seqC_n _ _ _ _).trans ((show execL (C b) 0 c14 (k10 b) (ee2 x1 x3 x4) S = execL (C b) 0 c16 (k17 b) (ee2 x1 x3 x4) S from execL_block c14_h).trans (L0_in b x1 x3 x4 S)))
theorem k15_l (b : Nat) : seqC (fun e S => execL (C b) 0 c14 (k10 b) e S) (k10 b) = k15 b := rfl
@[go_sem] theorem g38 (b : Nat) (K : KT) (x1 x3 : PV) (S : Store) : execL (C b) 0 c13 K (ee1 x1 x3) S =
  withV (some (.int .i64 0)) fun x4 =>
    K .normal (ee2 x1 x3 x4) S := nr (by kernel_rfl)
@[go_sem] theorem k12_n (b : Nat) (x1 x3 : PV) (S : Store) : k12 b .normal (ee1 x1 x3) S =
  execL (C b) 0 c13 (k15 b) (ee1 x1 x3) S := nr ((show k12 b .normal (ee1 x1 x3) S = execL (C b) 0 c5 (k10 b) (ee1 x1 x3) S from seqC_n _ _ _ _).trans ((enter_seq c5_h (k15_l b)).trans (rfl)))
theorem k12_l (b : Nat) : seqC (fun e S => execL (C b) 0 c4 (k0 b) e S) (k0 b) = k12 b := link_seq c4_h (k10_l b)
noncomputable def k39 (b : Nat) : KT := seqC (fun e S => execL (C b) 0 c3 (k12 b) e S) (k0 b)
@[go_sem] theorem g40 (b : Nat) (K : KT) (x1 : PV) (S : Store) : execL (C b) 0 c3 K (ee0 x1) S =
  withV (some (.int .i64 0)) fun x3 =>
    K .normal (ee1 x1 x3) S := nr (by kernel_rfl)
@[go_sem] theorem k39_n (b : Nat) (e : Env) (S : Store) : k39 b .normal e S = execL (C b) 0 c3 (k12 b) e S := nr (seqC_n _ _ _ _)
theorem k39_l (b : Nat) : seqC (fun e S => execL (C b) 0 c2 (k0 b) e S) (k0 b) = k39 b := link_seq c2_h (k12_l b)
@[go_sem] theorem g41 (b : Nat) (K : KT) (x0 : PV) (S : Store) : execL (C b) 0 c1 K [(0, x0)] S =
  withN (boxed S (List.length S) (TI.size (tyi Try.prog 54)) x0) S fun x1 S =>
    withV (some (.int .i64 0)) fun x2 =>
    K .normal (ee0 x1) S := nr (by kernel_rfl)
noncomputable def E (b : Nat) (x0 : PV) (S : Store) : RT := execL (C b) 0 code (k0 b) [(0, x0)] S
@[go_sem] theorem E_eq (b : Nat) (x0 : PV) (S : Store) : E b x0 S =
  execL (C b) 0 c1 (k39 b) [(0, x0)] S := nr ((enter_seq code_h (k39_l b)).trans (rfl))
theorem call {x0 : PV} {r : PV × Store} {v : PV} (h : E 0 x0 [] = some r) (hv : fzPV r.2 r.1 = some v) : callL Try.prog hints 45 [x0] = some v := callL_of (fn := Try.f45) (c := code) (by kernel_rfl) (by kernel_rfl) (by decide) (by kernel_rfl) (Nat.le_of_ble_eq_true (by kernel_rfl)) h hv
end F45
end Go.Vs
end
/- tree.Size, Levels, and the reference's: what they return. -/
section
set_option linter.unusedVariables false
set_option linter.unusedSimpArgs false
namespace Go.Vs
open Go Go.Proofs
mutual
/-- The number of nodes, as the machine counts. -/
def Node.size : Node → Int
  | .mk _ _ _ _ _ f => Node.sizes 1 f
def Node.sizes : Int → List Node → Int
  | a, [] => a
  | a, n :: r => Node.sizes (IntKind.i64.wrap (a + n.size)) r
end
mutual
/-- The number of levels, as the machine counts. -/
def Node.levels : Node → Int
  | .mk _ _ _ _ _ f => IntKind.i64.wrap (Node.most 0 f + 1)
def Node.most : Int → List Node → Int
  | a, [] => a
  | a, n :: r => Node.most (if a < n.levels then n.levels else a) r
end
theorem Node.size_eq (n : Node) : Node.sizes 1 n.kids = n.size := by cases n; rfl
theorem Node.levels_eq (n : Node) : IntKind.i64.wrap (Node.most 0 n.kids + 1) = n.levels := by cases n; rfl
theorem maxLen_le : maxLen ≤ 9223372036854775807 := by decide
theorem wrap_succ {i n : Nat} (h : i < n) (hn : n ≤ maxLen) : IntKind.i64.wrap ((i : Int) + 1) = ((i + 1 : Nat) : Int) := by
  have := maxLen_le
  rw [IntKind.wrap_i64]; omega
theorem callN {f : FuncId} {n : Node} {v : PV} (S : Store) (h : callL Try.prog hints f [.agg n.cells] = some v) : callO (callL Try.prog hints) S f [.agg n.cells] = some { v } := callO_plain h (by simp [Node.plain])
theorem loop35 (n : Node) (hk : n.kids.length ≤ maxLen) (ih : ∀ k ∈ n.kids, callL Try.prog hints 35 [.agg k.cells] = some (.int .i64 k.size)) : ∀ (m i : Nat), i + m = n.kids.length → ∀ (a : Int),
    F35.L0 0 1 (.mp 0 0 0) (.int .i64 a) (.int .i64 i) [.arr [n.cells] none false] = some (.int .i64 (Node.sizes a (n.kids.drop i)), [.arr [n.cells] none false]) := by
  intro m
  induction m with
  | zero =>
    intro i hi a
    apply F35.L0_step
    have h1 : ¬ (i : Int) < (n.kids.length : Int) := by omega
    simp only [go_sem, ↓reduceIte, Nat.reduceEqDiff, Nat.reduceBEq, Nat.reduceAdd, Nat.reduceMul, Nat.reduceSub, Nat.reduceLT, Nat.reduceLeDiff, reduceCtorEq, Int.reduceToNat, Int.reduceLE, Int.reduceLT, Int.reduceEq, h1]
    rw [List.drop_of_length_le (by omega)]
    rfl
  | succ m hm =>
    intro i hi a
    apply F35.L0_step
    have h1 : (i : Int) < (n.kids.length : Int) := by omega
    have h2 := wrap_succ (i := i) (n := n.kids.length) (by omega) hk
    have h4 : 0 ≤ (i : Int) ∧ (i : Int) < (n.kids.length : Int) := ⟨by omega, h1⟩
    have h5 := fun S => callN S (ih _ (kids_mem (l := n.kids) (i := i) (by omega)))
    simp only [go_sem, ↓reduceIte, Nat.reduceEqDiff, Nat.reduceBEq, Nat.reduceAdd, Nat.reduceMul, Nat.reduceSub, Nat.reduceLT, Nat.reduceLeDiff, reduceCtorEq, Int.reduceToNat, Int.reduceLE, Int.reduceLT, Int.reduceEq, h1, h2, h4, h5, hm (i + 1) (by omega)]
    rw [kids_drop (l := n.kids) (i := i) (by omega)]
    rfl
theorem call35 : ∀ n : Node, n.ok → callL Try.prog hints 35 [.agg n.cells] = some (.int .i64 n.size) := by
  refine Node.ind' fun n ih hn => ?_
  have hk : n.kids.length ≤ maxLen ∧ Node.oks n.kids := by cases n; exact ⟨hn.2.2.2.2.2.2.1, hn.2.2.2.2.2.2.2⟩
  refine F35.call (r := (.int .i64 n.size, [.arr [n.cells] none false])) ?_ rfl
  have h := loop35 n hk.1 (fun k hk' => ih k hk' (Node.oks_iff.1 hk.2 k hk')) n.kids.length 0 (by omega) 1
  simp only [Int.natCast_zero, List.drop_zero, Node.size_eq] at h
  simp only [go_sem, ↓reduceIte, Nat.reduceEqDiff, Nat.reduceBEq, Nat.reduceAdd, Nat.reduceMul, Nat.reduceSub, Nat.reduceLT, Nat.reduceLeDiff, reduceCtorEq, Int.reduceToNat, Int.reduceLE, Int.reduceLT, Int.reduceEq, h]
theorem loop45 (n : Node) (hk : n.kids.length ≤ maxLen) (ih : ∀ k ∈ n.kids, callL Try.prog hints 45 [.agg k.cells] = some (.int .i64 k.levels)) : ∀ (m i : Nat), i + m = n.kids.length → ∀ (a : Int),
    F45.L0 0 1 (.mp 0 0 0) (.int .i64 a) (.int .i64 i) [.arr [n.cells] none false] = some (.int .i64 (IntKind.i64.wrap (Node.most a (n.kids.drop i) + 1)), [.arr [n.cells] none false]) := by
  intro m
  induction m with
  | zero =>
    intro i hi a
    apply F45.L0_step
    have h1 : ¬ (i : Int) < (n.kids.length : Int) := by omega
    simp only [go_sem, ↓reduceIte, Nat.reduceEqDiff, Nat.reduceBEq, Nat.reduceAdd, Nat.reduceMul, Nat.reduceSub, Nat.reduceLT, Nat.reduceLeDiff, reduceCtorEq, Int.reduceToNat, Int.reduceLE, Int.reduceLT, Int.reduceEq, h1]
    rw [List.drop_of_length_le (by omega)]
    rfl
  | succ m hm =>
    intro i hi a
    apply F45.L0_step
    have h1 : (i : Int) < (n.kids.length : Int) := by omega
    have h2 := wrap_succ (i := i) (n := n.kids.length) (by omega) hk
    have h4 : 0 ≤ (i : Int) ∧ (i : Int) < (n.kids.length : Int) := ⟨by omega, h1⟩
    have h5 := fun S => callN S (ih _ (kids_mem (l := n.kids) (i := i) (by omega)))
    simp only [go_sem, ↓reduceIte, Nat.reduceEqDiff, Nat.reduceBEq, Nat.reduceAdd, Nat.reduceMul, Nat.reduceSub, Nat.reduceLT, Nat.reduceLeDiff, reduceCtorEq, Int.reduceToNat, Int.reduceLE, Int.reduceLT, Int.reduceEq, h1, h2, h4, h5, hm (i + 1) (by omega)]
    rw [kids_drop (l := n.kids) (i := i) (by omega)]
    rfl
theorem call45 : ∀ n : Node, n.ok → callL Try.prog hints 45 [.agg n.cells] = some (.int .i64 n.levels) := by
  refine Node.ind' fun n ih hn => ?_
  have hk : n.kids.length ≤ maxLen ∧ Node.oks n.kids := by cases n; exact ⟨hn.2.2.2.2.2.2.1, hn.2.2.2.2.2.2.2⟩
  refine F45.call (r := (.int .i64 n.levels, [.arr [n.cells] none false])) ?_ rfl
  have h := loop45 n hk.1 (fun k hk' => ih k hk' (Node.oks_iff.1 hk.2 k hk')) n.kids.length 0 (by omega) 0
  simp only [Int.natCast_zero, List.drop_zero, Node.levels_eq] at h
  simp only [go_sem, ↓reduceIte, Nat.reduceEqDiff, Nat.reduceBEq, Nat.reduceAdd, Nat.reduceMul, Nat.reduceSub, Nat.reduceLT, Nat.reduceLeDiff, reduceCtorEq, Int.reduceToNat, Int.reduceLE, Int.reduceLT, Int.reduceEq, h]
end Go.Vs
end
/- Printed by a program of mine (stage1.py): the functions 68, 69, 70, 71, 42, 46, 47, piece by piece. -/
section
set_option linter.unusedVariables false
set_option linter.unusedSimpArgs false
namespace Go.Vs
open Go Go.Proofs

/-! ### tree.less -/
namespace F68
end F68
/-! ### tree.words -/
namespace F69
end F69
/-! ### isochroneref08.less -/
namespace F70
end F70
/-! ### isochroneref08.words -/
namespace F71
end F71
/-! ### tree.Compare -/
namespace F42
end F42
/-! ### isochroneref08.Compare -/
namespace F46
end F46
/-! ### tree.Equal -/
namespace F47
end F47
end Go.Vs
end
/- tree.Compare and the reference's: what they return. -/
section
set_option linter.unusedVariables false
set_option linter.unusedSimpArgs false
namespace Go.Vs
open Go Go.Proofs
theorem Node.ok.num {n : Node} (h : n.ok) : n.num.length ≤ maxLen := by cases n; exact h.2.2.1
theorem Node.ok.den {n : Node} (h : n.ok) : n.den.length ≤ maxLen := by cases n; exact h.2.2.2.1
theorem Node.ok.len {n : Node} (h : n.ok) : n.kids.length ≤ maxLen := by cases n; exact h.2.2.2.2.2.2.1
theorem Node.ok.kids {n : Node} (h : n.ok) : ∀ k ∈ n.kids, k.ok := by cases n; exact Node.oks_iff.1 h.2.2.2.2.2.2.2
end Go.Vs
end
