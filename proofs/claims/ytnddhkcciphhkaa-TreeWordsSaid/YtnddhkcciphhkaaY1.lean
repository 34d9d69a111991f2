/- tree.Name, tree.Sort, and the reference's: what they return. -/
import Derived.Test.YtnddhkcciphhkaaVs41
import Derived.Test.YtnddhkcciphhkaaS66
set_option linter.unusedVariables false
set_option linter.unusedSimpArgs false
namespace Go.Vs
open Go Go.Proofs
def isLetter (c : Int) : Bool := decide (97 ≤ c ∧ c ≤ 122 ∨ 65 ≤ c ∧ c ≤ 90)
def isDigit (c : Int) : Bool := decide (48 ≤ c ∧ c ≤ 57)
theorem call66 (c : Int) : callL Try.prog hints 66 [.int .u8 c] = some (.bool (isLetter c)) := by
  refine F66.call (r := (.bool (isLetter c), [])) ?_ rfl
  simp only [go_sem]
  repeat' split
  all_goals (simp [isLetter] <;> omega)
theorem call67 (c : Int) : callL Try.prog hints 67 [.int .u8 c] = some (.bool (isLetter c)) := by
  refine F67.call (r := (.bool (isLetter c), [])) ?_ rfl
  simp only [go_sem]
  repeat' split
  all_goals (simp [isLetter] <;> omega)
@[go_sem] theorem callO66 (S : Store) (c : Int) : callO (callL Try.prog hints) S 66 [.int .u8 c] = some { v := .bool (isLetter c) } := callO_plain (call66 c) (by simp [Plain.int])
@[go_sem] theorem callO67 (S : Store) (c : Int) : callO (callL Try.prog hints) S 67 [.int .u8 c] = some { v := .bool (isLetter c) } := callO_plain (call67 c) (by simp [Plain.int])
/-- From byte i on, letters and digits alone. -/
def restOK (s : ByteArray) : Nat → Nat → Bool
  | 0, i => true
  | m + 1, i => (isLetter (byteAt s i) || isDigit (byteAt s i)) && restOK s m (i + 1)
/-- The first may be a letter alone. -/
def restOK' (s : ByteArray) : Nat → Nat → Bool
  | 0, i => true
  | m + 1, i => (isLetter (byteAt s i) || (decide (i ≠ 0) && isDigit (byteAt s i))) && restOK' s m (i + 1)
theorem restOK'_eq (s : ByteArray) : ∀ (m i : Nat), i ≠ 0 → restOK' s m i = restOK s m i
  | 0, i, h => rfl
  | m + 1, i, h => by simp [restOK, restOK', h, restOK'_eq s m (i + 1) (by omega)]
def keyword (s : ByteArray) : Bool := s.toList == (⟨#[116, 114, 117, 101]⟩ : ByteArray).toList || s.toList == (⟨#[102, 97, 108, 115, 101]⟩ : ByteArray).toList || s.toList == (⟨#[102, 111, 114, 97, 108, 108]⟩ : ByteArray).toList || s.toList == (⟨#[101, 120, 105, 115, 116, 115]⟩ : ByteArray).toList
theorem loop38 (s : ByteArray) (hs : s.size ≤ 12) : ∀ (m i : Nat), i + m = s.size → ∀ x2 x17 x21 x40 x41 x42, F38.L0 0 0 (.str s) x2 (.int .i64 i) x17 x21 x40 x41 x42 [] = some (.bool (restOK s m i && !keyword s), []) := by
  intro m
  induction m with
  | zero =>
    intro i hi x2 x17 x21 x40 x41 x42
    apply F38.L0_step
    have h1 : ¬ (i : Int) < (s.size : Int) := by omega
    simp only [go_sem, h1]
    repeat' split
    all_goals simp_all [restOK, keyword]
  | succ m ih =>
    intro i hi x2 x17 x21 x40 x41 x42
    apply F38.L0_step
    have h1 : (i : Int) < (s.size : Int) := by omega
    have h2 : IntKind.i64.wrap ((i : Int) + 1) = ((i + 1 : Nat) : Int) := by rw [IntKind.wrap_i64]; omega
    have h3 := ih (i + 1) (by omega)
    have h4 : 0 ≤ (i : Int) ∧ (i : Int) < (s.size : Int) := ⟨by omega, h1⟩
    simp only [go_sem, h1, h2, h3, h4]
    repeat' split
    all_goals (simp_all [restOK, isDigit] <;> omega)
theorem loop39 (s : ByteArray) (hs : s.size ≤ 12) : ∀ (m i : Nat), i + m = s.size → ∀ x2 x27 x31 x54, F39.L0 0 0 (.str s) x2 (.int .i64 i) x27 x31 x54 [] = some (.bool (restOK' s m i), []) := by
  intro m
  induction m with
  | zero =>
    intro i hi x2 x27 x31 x54
    apply F39.L0_step
    have h1 : ¬ (i : Int) < (s.size : Int) := by omega
    simp only [go_sem, h1]
    rfl
  | succ m ih =>
    intro i hi x2 x27 x31 x54
    apply F39.L0_step
    have h1 : (i : Int) < (s.size : Int) := by omega
    have h2 : IntKind.i64.wrap ((i : Int) + 1) = ((i + 1 : Nat) : Int) := by rw [IntKind.wrap_i64]; omega
    have h3 := ih (i + 1) (by omega)
    have h4 : 0 ≤ (i : Int) ∧ (i : Int) < (s.size : Int) := ⟨by omega, h1⟩
    simp only [go_sem, h1, h2, h3, h4]
    repeat' split
    all_goals (simp_all [restOK', isDigit] <;> omega)
/-- A name. -/
def nameOK (s : ByteArray) : Bool := decide (0 < s.size ∧ s.size ≤ 12) && isLetter (byteAt s 0) && restOK s s.size 0 && !keyword s
theorem call38 (s : ByteArray) : callL Try.prog hints 38 [.str s] = some (.bool (nameOK s)) := by
  refine F38.call (r := (.bool (nameOK s), [])) ?_ rfl
  by_cases h0 : s.size = 0
  · simp [go_sem, h0, nameOK]
  have h5 : ¬ (s.size : Int) = 0 := by omega
  by_cases h1 : s.size ≤ 12
  · have h2 := loop38 s h1 s.size 0 (by omega)
    have h3 : (0 : Int) < (s.size : Int) := by omega
    have h4 : ¬ (12 : Int) < (s.size : Int) := by omega
    simp only [Int.natCast_zero] at h2
    simp only [go_sem, h3, h4, h5, Int.le_refl, List.length_nil, h2, Int.toNat_zero]
    have h6 : 0 < s.size := by omega
    cases h7 : isLetter (byteAt s 0) <;> simp [nameOK, h7, h1, h6]
  · have h4 : (12 : Int) < (s.size : Int) := by omega
    simp only [go_sem, h4, h5]
    simp [nameOK, h1]
theorem call39 (s : ByteArray) : callL Try.prog hints 39 [.str s] = some (.bool (nameOK s)) := by
  refine F39.call (r := (.bool (nameOK s), [])) ?_ rfl
  by_cases h0 : s.size = 0
  · simp [go_sem, h0, nameOK]
  have h5 : ¬ (s.size : Int) = 0 := by omega
  by_cases h1 : s.size ≤ 12
  · have h2 := loop39 s h1 s.size 0 (by omega)
    have h4 : ¬ (12 : Int) < (s.size : Int) := by omega
    simp only [Int.natCast_zero] at h2
    simp only [go_sem, h4, h5, List.length_nil, h2]
    have h6 : 0 < s.size := by omega
    obtain ⟨m, hm⟩ : ∃ m, s.size = m + 1 := ⟨s.size - 1, by omega⟩
    have h7 : restOK' s s.size 0 = (isLetter (byteAt s 0) && restOK s s.size 0) := by
      rw [hm]
      simp only [restOK', restOK, restOK'_eq s m (0 + 1) (by omega)]
      cases isLetter (byteAt s 0) <;> simp
    have h8 : keyword s = (decide (s.toList = (⟨#[116, 114, 117, 101]⟩ : ByteArray).toList) || decide (s.toList = (⟨#[102, 97, 108, 115, 101]⟩ : ByteArray).toList) || decide (s.toList = (⟨#[102, 111, 114, 97, 108, 108]⟩ : ByteArray).toList) || decide (s.toList = (⟨#[101, 120, 105, 115, 116, 115]⟩ : ByteArray).toList)) := by
      simp [keyword, Bool.beq_eq_decide_eq]
    simp only [h7, nameOK, h8, h1, h6, and_self, decide_true, Bool.true_and]
    repeat' split
    all_goals simp_all
  · have h4 : (12 : Int) < (s.size : Int) := by omega
    simp only [go_sem, h4, h5]
    simp [nameOK, h1]
/-- The sort of an operator. -/
def sortOf (n : Int) : Int := if 1 ≤ n ∧ n ≤ 13 then 1 else if 20 ≤ n ∧ n ≤ 39 then 2 else if n = 55 ∨ n = 56 then 4 else if 50 ≤ n ∧ n ≤ 62 then 3 else 0
theorem call40 (n : Int) : callL Try.prog hints 40 [.int .i64 n] = some (.int .i64 (sortOf n)) := by
  refine F40.call (r := (.int .i64 (sortOf n), [])) ?_ rfl
  simp only [go_sem]
  repeat' split
  all_goals (simp [sortOf] <;> omega)
theorem call41 (n : Int) : callL Try.prog hints 41 [.int .i64 n] = some (.int .i64 (sortOf n)) := by
  refine F41.call (r := (.int .i64 (sortOf n), [])) ?_ rfl
  simp only [go_sem]
  repeat' split
  all_goals (simp [sortOf] <;> omega)
@[go_sem] theorem callO38 (S : Store) (s : ByteArray) : callO (callL Try.prog hints) S 38 [.str s] = some { v := .bool (nameOK s) } := callO_plain (call38 s) (by simp [Plain.str])
@[go_sem] theorem callO39 (S : Store) (s : ByteArray) : callO (callL Try.prog hints) S 39 [.str s] = some { v := .bool (nameOK s) } := callO_plain (call39 s) (by simp [Plain.str])
@[go_sem] theorem callO40 (S : Store) (n : Int) : callO (callL Try.prog hints) S 40 [.int .i64 n] = some { v := .int .i64 (sortOf n) } := callO_plain (call40 n) (by simp [Plain.int])
@[go_sem] theorem callO41 (S : Store) (n : Int) : callO (callL Try.prog hints) S 41 [.int .i64 n] = some { v := .int .i64 (sortOf n) } := callO_plain (call41 n) (by simp [Plain.int])
end Go.Vs
