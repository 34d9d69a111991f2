/- Names and variables: tree.Name, the reference's, and the three functions that take a prime away. -/

import Derived.Test.YtkaeejkajfinhaaGreatMS22
section
set_option linter.unusedVariables false
set_option linter.unusedSimpArgs false
set_option maxRecDepth 100000
namespace Go.Vs
open Go Go.Proofs
def isLetter (c : Int) : Bool := (decide (97 ≤ c) && decide (c ≤ 122)) || (decide (65 ≤ c) && decide (c ≤ 90))
section
attribute [local irreducible] Vs.callL Vs.callRL tyi callO callM callMV appendE storeE evLoad indexAddrO sliceO evFieldAddr evField buildO buildSliceO makeSliceO allocO boxed lenO copyE convertO indexO Vs.gc freezeAll
noncomputable def fx_tree_letter : FX := ⟨Tryz.f146, hints.of 146, []⟩
theorem ok_tree_letter : fx_tree_letter.ok 146 := ⟨by kernel_rfl, of_decide_eq_true (by kernel_rfl), by kernel_rfl, by kernel_rfl, by kernel_rfl, by kernel_rfl⟩
theorem sem_tree_letter (b0 : Nat) (m : Md) (fs : List Fr) (e : Env) (S : Store) : sem b0 fx_tree_letter m fs e S = run b0 fx_tree_letter 1000 m fs e S := (sem_eq _ _ _ _ _ _).trans (run_sem b0 fx_tree_letter ok_tree_letter.good 1000 m fs e S).symm
theorem call_letter (c : Int) : callL Tryz.prog hints 146 [.int .u8 c] = some (.bool (isLetter c)) := by
  refine FX.callL (r := (.bool (isLetter c), [])) ok_tree_letter 1000 rfl rfl ?_ rfl
  unfold isLetter
  by_cases h1 : 97 ≤ c <;> by_cases h2 : c ≤ 122 <;> by_cases h3 : 65 ≤ c <;> by_cases h4 : c ≤ 90 <;>
    (simp only [h1, h2, h3, h4, decide_true, decide_false, Bool.true_and, Bool.false_and, Bool.and_true, Bool.and_false, Bool.or_true, Bool.or_false, Bool.true_or, Bool.false_or]; ((repeat ((conv => lhs; whnf); simp only [go_sem, ↓reduceIte, Nat.reduceEqDiff, Nat.reduceBEq, Nat.reduceAdd, Nat.reduceMul, Nat.reduceSub, Nat.reduceLT, Nat.reduceLeDiff, reduceCtorEq, Int.reduceToNat, Int.reduceLE, Int.reduceLT, Int.reduceEq, sem_tree_letter, h1, h2, h3, h4])); try (conv => lhs; whnf); try rfl))
noncomputable def fx_isochroneref08_letter : FX := ⟨Tryz.f118, hints.of 118, []⟩
theorem ok_isochroneref08_letter : fx_isochroneref08_letter.ok 118 := ⟨by kernel_rfl, of_decide_eq_true (by kernel_rfl), by kernel_rfl, by kernel_rfl, by kernel_rfl, by kernel_rfl⟩
theorem sem_isochroneref08_letter (b0 : Nat) (m : Md) (fs : List Fr) (e : Env) (S : Store) : sem b0 fx_isochroneref08_letter m fs e S = run b0 fx_isochroneref08_letter 1000 m fs e S := (sem_eq _ _ _ _ _ _).trans (run_sem b0 fx_isochroneref08_letter ok_isochroneref08_letter.good 1000 m fs e S).symm
theorem call_letter8 (c : Int) : callL Tryz.prog hints 118 [.int .u8 c] = some (.bool (isLetter c)) := by
  refine FX.callL (r := (.bool (isLetter c), [])) ok_isochroneref08_letter 1000 rfl rfl ?_ rfl
  unfold isLetter
  by_cases h1 : 97 ≤ c <;> by_cases h2 : c ≤ 122 <;> by_cases h3 : 65 ≤ c <;> by_cases h4 : c ≤ 90 <;>
    (simp only [h1, h2, h3, h4, decide_true, decide_false, Bool.true_and, Bool.false_and, Bool.and_true, Bool.and_false, Bool.or_true, Bool.or_false, Bool.true_or, Bool.false_or]; ((repeat ((conv => lhs; whnf); simp only [go_sem, ↓reduceIte, Nat.reduceEqDiff, Nat.reduceBEq, Nat.reduceAdd, Nat.reduceMul, Nat.reduceSub, Nat.reduceLT, Nat.reduceLeDiff, reduceCtorEq, Int.reduceToNat, Int.reduceLE, Int.reduceLT, Int.reduceEq, sem_isochroneref08_letter, h1, h2, h3, h4])); try (conv => lhs; whnf); try rfl))
theorem letter_o (S : Store) (c : Int) : callO (callL Tryz.prog hints) S 146 [.int .u8 c] = some { v := .bool (isLetter c) } := callO_plain (call_letter c) (by simp [Plain.int])
theorem letter8_o (S : Store) (c : Int) : callO (callL Tryz.prog hints) S 118 [.int .u8 c] = some { v := .bool (isLetter c) } := callO_plain (call_letter8 c) (by simp [Plain.int])
def isAlnum (c : Int) : Bool := isLetter c || (decide (48 ≤ c) && decide (c ≤ 57))
/-- From byte i on, letters and digits alone. -/
def restOK (s : ByteArray) : Nat → Nat → Bool
  | 0, i => true
  | m + 1, i => isAlnum (byteAt s i) && restOK s m (i + 1)
def kw1 (s : ByteArray) : Bool := s.toList == (⟨#[116, 114, 117, 101]⟩ : ByteArray).toList
def kw2 (s : ByteArray) : Bool := s.toList == (⟨#[102, 97, 108, 115, 101]⟩ : ByteArray).toList
def kw3 (s : ByteArray) : Bool := s.toList == (⟨#[102, 111, 114, 97, 108, 108]⟩ : ByteArray).toList
def kw4 (s : ByteArray) : Bool := s.toList == (⟨#[101, 120, 105, 115, 116, 115]⟩ : ByteArray).toList
def keyword (s : ByteArray) : Bool := kw1 s || kw2 s || kw3 s || kw4 s
def nameOK (s : ByteArray) : Bool := decide (0 < s.size) && decide (s.size ≤ 12) && isLetter (byteAt s 0) && restOK s s.size 0 && !keyword s
noncomputable def fx_tree_Name : FX := ⟨Tryz.f108, hints.of 108, []⟩
theorem ok_tree_Name : fx_tree_Name.ok 108 := ⟨by kernel_rfl, of_decide_eq_true (by kernel_rfl), by kernel_rfl, by kernel_rfl, by kernel_rfl, by kernel_rfl⟩
theorem sem_tree_Name (b0 : Nat) (m : Md) (fs : List Fr) (e : Env) (S : Store) : sem b0 fx_tree_Name m fs e S = run b0 fx_tree_Name 1000 m fs e S := (sem_eq _ _ _ _ _ _).trans (run_sem b0 fx_tree_Name ok_tree_Name.good 1000 m fs e S).symm
theorem loop_Name (s : ByteArray) (hs : s.size ≤ 12) : ∀ (m i : Nat), i + m = s.size → loopAt 0 fx_tree_Name 0 116 0 [.blk 0, .seq 0 15] [(0, .str s), (3, .int .i64 i)] [] = some (.bool (restOK s m i && !keyword s), []) := by
  intro m
  induction m with
  | zero =>
    intro i hi
    have h1 : ¬ (i : Int) < (s.size : Int) := by omega
    refine loopAt_step ok_tree_Name.good 1000 ?_
    ((repeat ((conv => lhs; whnf); simp only [go_sem, ↓reduceIte, Nat.reduceEqDiff, Nat.reduceBEq, Nat.reduceAdd, Nat.reduceMul, Nat.reduceSub, Nat.reduceLT, Nat.reduceLeDiff, reduceCtorEq, Int.reduceToNat, Int.reduceLE, Int.reduceLT, Int.reduceEq, sem_tree_Name, h1])); try (conv => lhs; whnf); try rfl)
    refine exit_run ok_tree_Name.good 1000 ?_
    simp only [restOK, Bool.true_and, keyword]
    cases k1 : kw1 s <;> cases k2 : kw2 s <;> cases k3 : kw3 s <;> cases k4 : kw4 s <;>
      (unfold kw1 kw2 kw3 kw4 at *; simp only [Bool.or_true, Bool.or_false, Bool.true_or, Bool.false_or, Bool.not_true, Bool.not_false]; ((repeat ((conv => lhs; whnf); simp only [go_sem, ↓reduceIte, Nat.reduceEqDiff, Nat.reduceBEq, Nat.reduceAdd, Nat.reduceMul, Nat.reduceSub, Nat.reduceLT, Nat.reduceLeDiff, reduceCtorEq, Int.reduceToNat, Int.reduceLE, Int.reduceLT, Int.reduceEq, sem_tree_Name, k1, k2, k3, k4])); try (conv => lhs; whnf); try rfl))
  | succ m ih =>
    intro i hi
    have h1 : (i : Int) < (s.size : Int) := by omega
    have h2 := wrap_succ (i := i) (n := s.size) (by omega) (by unfold maxLen; omega)
    have h4 : 0 ≤ (i : Int) ∧ (i : Int) < (s.size : Int) := ⟨by omega, h1⟩
    have key := ih (i + 1) (by omega)
    refine loopAt_step ok_tree_Name.good 1000 ?_
    simp only [restOK, isAlnum]
    cases hl : isLetter (byteAt s i)
    · by_cases c1 : byteAt s i < 48
      · have c1' : ¬ 48 ≤ byteAt s i := by omega
        simp only [c1', decide_false, Bool.false_and, Bool.or_self]
        ((repeat ((conv => lhs; whnf); simp only [go_sem, ↓reduceIte, Nat.reduceEqDiff, Nat.reduceBEq, Nat.reduceAdd, Nat.reduceMul, Nat.reduceSub, Nat.reduceLT, Nat.reduceLeDiff, reduceCtorEq, Int.reduceToNat, Int.reduceLE, Int.reduceLT, Int.reduceEq, sem_tree_Name, h1, h2, h4, letter_o, hl, Int.toNat_natCast, c1])); try (conv => lhs; whnf); try rfl)
      · have c1' : 48 ≤ byteAt s i := by omega
        by_cases c2 : 57 < byteAt s i
        · have c2' : ¬ byteAt s i ≤ 57 := by omega
          simp only [c1', c2', decide_true, decide_false, Bool.true_and, Bool.or_self, Bool.false_and]
          ((repeat ((conv => lhs; whnf); simp only [go_sem, ↓reduceIte, Nat.reduceEqDiff, Nat.reduceBEq, Nat.reduceAdd, Nat.reduceMul, Nat.reduceSub, Nat.reduceLT, Nat.reduceLeDiff, reduceCtorEq, Int.reduceToNat, Int.reduceLE, Int.reduceLT, Int.reduceEq, sem_tree_Name, h1, h2, h4, letter_o, hl, Int.toNat_natCast, c1, c2])); try (conv => lhs; whnf); try rfl)
        · have c2' : byteAt s i ≤ 57 := by omega
          simp only [c1', c2', decide_true, Bool.true_and, Bool.or_true, Bool.and_self]
          ((repeat ((conv => lhs; whnf); simp only [go_sem, ↓reduceIte, Nat.reduceEqDiff, Nat.reduceBEq, Nat.reduceAdd, Nat.reduceMul, Nat.reduceSub, Nat.reduceLT, Nat.reduceLeDiff, reduceCtorEq, Int.reduceToNat, Int.reduceLE, Int.reduceLT, Int.reduceEq, sem_tree_Name, h1, h2, h4, letter_o, hl, Int.toNat_natCast, c1, c2])); try (conv => lhs; whnf); try rfl)
          exact key
    · simp only [Bool.true_or, Bool.true_and]
      ((repeat ((conv => lhs; whnf); simp only [go_sem, ↓reduceIte, Nat.reduceEqDiff, Nat.reduceBEq, Nat.reduceAdd, Nat.reduceMul, Nat.reduceSub, Nat.reduceLT, Nat.reduceLeDiff, reduceCtorEq, Int.reduceToNat, Int.reduceLE, Int.reduceLT, Int.reduceEq, sem_tree_Name, h1, h2, h4, letter_o, hl, Int.toNat_natCast])); try (conv => lhs; whnf); try rfl)
      exact key
theorem call_Name (s : ByteArray) : callL Tryz.prog hints 108 [.str s] = some (.bool (nameOK s)) := by
  refine FX.callL (r := (.bool (nameOK s), [])) ok_tree_Name 1000 rfl rfl ?_ rfl
  unfold nameOK
  by_cases h0 : s.size = 0
  · simp only [h0, Nat.lt_irrefl, decide_false, Bool.false_and]
    ((repeat ((conv => lhs; whnf); simp only [go_sem, ↓reduceIte, Nat.reduceEqDiff, Nat.reduceBEq, Nat.reduceAdd, Nat.reduceMul, Nat.reduceSub, Nat.reduceLT, Nat.reduceLeDiff, reduceCtorEq, Int.reduceToNat, Int.reduceLE, Int.reduceLT, Int.reduceEq, sem_tree_Name, h0])); try (conv => lhs; whnf); try rfl)
  · have h0' : 0 < s.size := by omega
    have h5 : ¬ (s.size : Int) = 0 := by omega
    have h6 : (0 : Int) < (s.size : Int) := by omega
    by_cases h1 : s.size ≤ 12
    · have h4 : ¬ (12 : Int) < (s.size : Int) := by omega
      have key := loop_Name s h1 s.size 0 (by omega)
      simp only [h0', h1, decide_true, Bool.true_and]
      cases hl : isLetter (byteAt s 0)
      · simp only [Bool.false_and]
        ((repeat ((conv => lhs; whnf); simp only [go_sem, ↓reduceIte, Nat.reduceEqDiff, Nat.reduceBEq, Nat.reduceAdd, Nat.reduceMul, Nat.reduceSub, Nat.reduceLT, Nat.reduceLeDiff, reduceCtorEq, Int.reduceToNat, Int.reduceLE, Int.reduceLT, Int.reduceEq, sem_tree_Name, h5, h4, h6, letter_o, hl, Int.toNat_zero])); try (conv => lhs; whnf); try rfl)
      · simp only [Bool.true_and]
        ((repeat ((conv => lhs; whnf); simp only [go_sem, ↓reduceIte, Nat.reduceEqDiff, Nat.reduceBEq, Nat.reduceAdd, Nat.reduceMul, Nat.reduceSub, Nat.reduceLT, Nat.reduceLeDiff, reduceCtorEq, Int.reduceToNat, Int.reduceLE, Int.reduceLT, Int.reduceEq, sem_tree_Name, h5, h4, h6, letter_o, hl, Int.toNat_zero])); try (conv => lhs; whnf); try rfl)
        exact key
    · have h4 : (12 : Int) < (s.size : Int) := by omega
      simp only [h0', h1, decide_true, decide_false, Bool.true_and, Bool.false_and]
      ((repeat ((conv => lhs; whnf); simp only [go_sem, ↓reduceIte, Nat.reduceEqDiff, Nat.reduceBEq, Nat.reduceAdd, Nat.reduceMul, Nat.reduceSub, Nat.reduceLT, Nat.reduceLeDiff, reduceCtorEq, Int.reduceToNat, Int.reduceLE, Int.reduceLT, Int.reduceEq, sem_tree_Name, h5, h4])); try (conv => lhs; whnf); try rfl)
/-- The first may be a letter alone. -/
def restOK' (s : ByteArray) : Nat → Nat → Bool
  | 0, i => true
  | m + 1, i => (isLetter (byteAt s i) || (decide (i ≠ 0) && (decide (48 ≤ byteAt s i) && decide (byteAt s i ≤ 57)))) && restOK' s m (i + 1)
theorem restOK'_eq (s : ByteArray) : ∀ (m i : Nat), i ≠ 0 → restOK' s m i = restOK s m i
  | 0, i, h => rfl
  | m + 1, i, h => by simp only [restOK, restOK', h, restOK'_eq s m (i + 1) (by omega), isAlnum, ne_eq, not_false_eq_true, decide_true, Bool.true_and]
noncomputable def fx_isochroneref08_Name : FX := ⟨Tryz.f71, hints.of 71, []⟩
theorem ok_isochroneref08_Name : fx_isochroneref08_Name.ok 71 := ⟨by kernel_rfl, of_decide_eq_true (by kernel_rfl), by kernel_rfl, by kernel_rfl, by kernel_rfl, by kernel_rfl⟩
theorem sem_isochroneref08_Name (b0 : Nat) (m : Md) (fs : List Fr) (e : Env) (S : Store) : sem b0 fx_isochroneref08_Name m fs e S = run b0 fx_isochroneref08_Name 1000 m fs e S := (sem_eq _ _ _ _ _ _).trans (run_sem b0 fx_isochroneref08_Name ok_isochroneref08_Name.good 1000 m fs e S).symm
theorem loop_Name8 (s : ByteArray) (hs : s.size ≤ 12) : ∀ (m i : Nat), i + m = s.size → loopAt 0 fx_isochroneref08_Name 0 116 0 [.blk 0, .seq 0 15] [(0, .str s), (3, .int .i64 i)] [] = some (.bool (restOK' s m i), []) := by
  intro m
  induction m with
  | zero =>
    intro i hi
    have h1 : ¬ (i : Int) < (s.size : Int) := by omega
    refine loopAt_step ok_isochroneref08_Name.good 1000 ?_
    ((repeat ((conv => lhs; whnf); simp only [go_sem, ↓reduceIte, Nat.reduceEqDiff, Nat.reduceBEq, Nat.reduceAdd, Nat.reduceMul, Nat.reduceSub, Nat.reduceLT, Nat.reduceLeDiff, reduceCtorEq, Int.reduceToNat, Int.reduceLE, Int.reduceLT, Int.reduceEq, sem_isochroneref08_Name, h1])); try (conv => lhs; whnf); try rfl)
    refine exit_run ok_isochroneref08_Name.good 1000 ?_
    simp only [restOK']
    ((repeat ((conv => lhs; whnf); simp only [go_sem, ↓reduceIte, Nat.reduceEqDiff, Nat.reduceBEq, Nat.reduceAdd, Nat.reduceMul, Nat.reduceSub, Nat.reduceLT, Nat.reduceLeDiff, reduceCtorEq, Int.reduceToNat, Int.reduceLE, Int.reduceLT, Int.reduceEq, sem_isochroneref08_Name])); try (conv => lhs; whnf); try rfl)
  | succ m ih =>
    intro i hi
    have h1 : (i : Int) < (s.size : Int) := by omega
    have h2 := wrap_succ (i := i) (n := s.size) (by omega) (by unfold maxLen; omega)
    have h4 : 0 ≤ (i : Int) ∧ (i : Int) < (s.size : Int) := ⟨by omega, h1⟩
    have key := ih (i + 1) (by omega)
    refine loopAt_step ok_isochroneref08_Name.good 1000 ?_
    simp only [restOK']
    cases hl : isLetter (byteAt s i)
    · by_cases c0 : i = 0
      · have c0' : (i : Int) = 0 := by omega
        simp only [c0, ne_eq, not_true, decide_false, Bool.false_and, Bool.or_self]
        simp only [c0, Int.natCast_zero] at h1 h4 hl c0' ⊢
        ((repeat ((conv => lhs; whnf); simp only [go_sem, ↓reduceIte, Nat.reduceEqDiff, Nat.reduceBEq, Nat.reduceAdd, Nat.reduceMul, Nat.reduceSub, Nat.reduceLT, Nat.reduceLeDiff, reduceCtorEq, Int.reduceToNat, Int.reduceLE, Int.reduceLT, Int.reduceEq, sem_isochroneref08_Name, h1, h4, letter8_o, hl, Int.toNat_zero])); try (conv => lhs; whnf); try rfl)
      · have c0' : ¬ (i : Int) = 0 := by omega
        by_cases c1 : byteAt s i < 48
        · have c1' : ¬ 48 ≤ byteAt s i := by omega
          simp only [c0, c1', ne_eq, not_false_eq_true, decide_true, Bool.true_and, decide_false, Bool.false_and, Bool.or_self]
          ((repeat ((conv => lhs; whnf); simp only [go_sem, ↓reduceIte, Nat.reduceEqDiff, Nat.reduceBEq, Nat.reduceAdd, Nat.reduceMul, Nat.reduceSub, Nat.reduceLT, Nat.reduceLeDiff, reduceCtorEq, Int.reduceToNat, Int.reduceLE, Int.reduceLT, Int.reduceEq, sem_isochroneref08_Name, h1, h2, h4, letter8_o, hl, Int.toNat_natCast, c0', c1])); try (conv => lhs; whnf); try rfl)
        · have c1' : 48 ≤ byteAt s i := by omega
          by_cases c2 : 57 < byteAt s i
          · have c2' : ¬ byteAt s i ≤ 57 := by omega
            simp only [c0, c1', c2', ne_eq, not_false_eq_true, decide_true, decide_false, Bool.true_and, Bool.or_self, Bool.false_and]
            ((repeat ((conv => lhs; whnf); simp only [go_sem, ↓reduceIte, Nat.reduceEqDiff, Nat.reduceBEq, Nat.reduceAdd, Nat.reduceMul, Nat.reduceSub, Nat.reduceLT, Nat.reduceLeDiff, reduceCtorEq, Int.reduceToNat, Int.reduceLE, Int.reduceLT, Int.reduceEq, sem_isochroneref08_Name, h1, h2, h4, letter8_o, hl, Int.toNat_natCast, c0', c1, c2])); try (conv => lhs; whnf); try rfl)
          · have c2' : byteAt s i ≤ 57 := by omega
            simp only [c0, c1', c2', ne_eq, not_false_eq_true, decide_true, Bool.true_and, Bool.or_true, Bool.and_self]
            ((repeat ((conv => lhs; whnf); simp only [go_sem, ↓reduceIte, Nat.reduceEqDiff, Nat.reduceBEq, Nat.reduceAdd, Nat.reduceMul, Nat.reduceSub, Nat.reduceLT, Nat.reduceLeDiff, reduceCtorEq, Int.reduceToNat, Int.reduceLE, Int.reduceLT, Int.reduceEq, sem_isochroneref08_Name, h1, h2, h4, letter8_o, hl, Int.toNat_natCast, c0', c1, c2])); try (conv => lhs; whnf); try rfl)
            exact key
    · simp only [Bool.true_or, Bool.true_and]
      ((repeat ((conv => lhs; whnf); simp only [go_sem, ↓reduceIte, Nat.reduceEqDiff, Nat.reduceBEq, Nat.reduceAdd, Nat.reduceMul, Nat.reduceSub, Nat.reduceLT, Nat.reduceLeDiff, reduceCtorEq, Int.reduceToNat, Int.reduceLE, Int.reduceLT, Int.reduceEq, sem_isochroneref08_Name, h1, h2, h4, letter8_o, hl, Int.toNat_natCast])); try (conv => lhs; whnf); try rfl)
      exact key
theorem call_Name8 (s : ByteArray) : callL Tryz.prog hints 71 [.str s] = some (.bool (nameOK s)) := by
  refine FX.callL (r := (.bool (nameOK s), [])) ok_isochroneref08_Name 1000 rfl rfl ?_ rfl
  unfold nameOK
  by_cases h0 : s.size = 0
  · simp only [h0, Nat.lt_irrefl, decide_false, Bool.false_and]
    ((repeat ((conv => lhs; whnf); simp only [go_sem, ↓reduceIte, Nat.reduceEqDiff, Nat.reduceBEq, Nat.reduceAdd, Nat.reduceMul, Nat.reduceSub, Nat.reduceLT, Nat.reduceLeDiff, reduceCtorEq, Int.reduceToNat, Int.reduceLE, Int.reduceLT, Int.reduceEq, sem_isochroneref08_Name, h0])); try (conv => lhs; whnf); try rfl)
  · have h0' : 0 < s.size := by omega
    have h5 : ¬ (s.size : Int) = 0 := by omega
    by_cases h1 : s.size ≤ 12
    · have h4 : ¬ (12 : Int) < (s.size : Int) := by omega
      have key := loop_Name8 s h1 s.size 0 (by omega)
      obtain ⟨m, hm⟩ : ∃ m, s.size = m + 1 := ⟨s.size - 1, by omega⟩
      have h7 : restOK' s s.size 0 = (isLetter (byteAt s 0) && restOK s s.size 0) := by
        rw [hm]
        simp only [restOK', restOK, isAlnum, restOK'_eq s m (0 + 1) (by omega)]
        cases isLetter (byteAt s 0) <;> simp
      simp only [h0', h1, decide_true, Bool.true_and]
      rw [h7] at key
      cases k1 : kw1 s <;> cases k2 : kw2 s <;> cases k3 : kw3 s <;> cases k4 : kw4 s <;>
        (simp only [keyword, k1, k2, k3, k4, Bool.or_true, Bool.or_false, Bool.true_or, Bool.false_or, Bool.not_true, Bool.not_false, Bool.and_true, Bool.and_false]; unfold kw1 kw2 kw3 kw4 at *; ((repeat ((conv => lhs; whnf); simp only [go_sem, ↓reduceIte, Nat.reduceEqDiff, Nat.reduceBEq, Nat.reduceAdd, Nat.reduceMul, Nat.reduceSub, Nat.reduceLT, Nat.reduceLeDiff, reduceCtorEq, Int.reduceToNat, Int.reduceLE, Int.reduceLT, Int.reduceEq, sem_isochroneref08_Name, h5, h4, k1, k2, k3, k4])); try (conv => lhs; whnf); try rfl); try exact key)
    · have h4 : (12 : Int) < (s.size : Int) := by omega
      simp only [h0', h1, decide_true, decide_false, Bool.true_and, Bool.false_and]
      ((repeat ((conv => lhs; whnf); simp only [go_sem, ↓reduceIte, Nat.reduceEqDiff, Nat.reduceBEq, Nat.reduceAdd, Nat.reduceMul, Nat.reduceSub, Nat.reduceLT, Nat.reduceLeDiff, reduceCtorEq, Int.reduceToNat, Int.reduceLE, Int.reduceLT, Int.reduceEq, sem_isochroneref08_Name, h5, h4])); try (conv => lhs; whnf); try rfl)
theorem Name8_o (S : Store) (s : ByteArray) : callO (callL Tryz.prog hints) S 71 [.str s] = some { v := .bool (nameOK s) } := callO_plain (call_Name8 s) (by simp [Plain.str])
theorem Name_o (S : Store) (s : ByteArray) : callO (callL Tryz.prog hints) S 108 [.str s] = some { v := .bool (nameOK s) } := callO_plain (call_Name s) (by simp [Plain.str])
end
end Go.Vs
end
/- Variables: names with a prime or without. -/
section
set_option linter.unusedVariables false
set_option linter.unusedSimpArgs false
set_option maxRecDepth 100000
namespace Go.Vs
open Go Go.Proofs
theorem slice_str (S : Store) (s : ByteArray) (n : Nat) (h : n ≤ s.size) : sliceO Tryz.prog 9 S (.str s) none (some (.int .i64 (n : Int))) none = some (.str (s.extract 0 n)) := by
  have b : bound s.size (some (.int .i64 (n : Int))) = some n := by simp [bound]
  have b0 : bound 0 none = some 0 := rfl
  have k : isSlice (tyi Tryz.prog 9) = false := by kernel_rfl
  simp [sliceO, tyStr, evSlice, b, b0, h, k]
def primed (s : ByteArray) : Bool := decide (0 < s.size) && decide (byteAt s (s.size - 1) = 39)
def varOK (s : ByteArray) : Bool := nameOK (if primed s = true then s.extract 0 (s.size - 1) else s)
section
attribute [local irreducible] Vs.callL Vs.callRL tyi callO callM callMV appendE storeE evLoad indexAddrO sliceO evFieldAddr evField buildO buildSliceO makeSliceO allocO boxed lenO copyE convertO indexO Vs.gc freezeAll
noncomputable def fx_state_variable : FX := ⟨Tryz.f58, hints.of 58, []⟩
theorem ok_state_variable : fx_state_variable.ok 58 := ⟨by kernel_rfl, of_decide_eq_true (by kernel_rfl), by kernel_rfl, by kernel_rfl, by kernel_rfl, by kernel_rfl⟩
theorem sem_state_variable (b0 : Nat) (m : Md) (fs : List Fr) (e : Env) (S : Store) : sem b0 fx_state_variable m fs e S = run b0 fx_state_variable 1000 m fs e S := (sem_eq _ _ _ _ _ _).trans (run_sem b0 fx_state_variable ok_state_variable.good 1000 m fs e S).symm
theorem call_variable (s : ByteArray) (hs : s.size ≤ maxLen) : callL Tryz.prog hints 58 [.str s] = some (.bool (varOK s)) := by
  refine FX.callL (r := (.bool (varOK s), [])) ok_state_variable 1000 rfl rfl ?_ rfl
  have hM := maxLen_le
  unfold varOK primed
  by_cases h0 : 0 < s.size
  · have h1 : (0 : Int) < (s.size : Int) := by omega
    have w1 : IntKind.i64.wrap ((s.size : Int) - 1) = ((s.size - 1 : Nat) : Int) := by rw [IntKind.wrap_i64]; omega
    have x1 : 0 ≤ ((s.size - 1 : Nat) : Int) ∧ ((s.size - 1 : Nat) : Int) < s.size := ⟨by omega, by omega⟩
    have sl := fun S => slice_str S s (s.size - 1) (by omega)
    by_cases h2 : byteAt s (s.size - 1) = 39
    · simp only [h0, h2, decide_true, Bool.and_self, if_true]
      ((repeat ((conv => lhs; whnf); simp only [go_sem, ↓reduceIte, Nat.reduceEqDiff, Nat.reduceBEq, Nat.reduceAdd, Nat.reduceMul, Nat.reduceSub, Nat.reduceLT, Nat.reduceLeDiff, reduceCtorEq, Int.reduceToNat, Int.reduceLE, Int.reduceLT, Int.reduceEq, sem_state_variable, h1, w1, x1, h2, sl, Int.toNat_natCast, Name_o])); try (conv => lhs; whnf); try rfl)
    · simp only [h0, h2, decide_true, decide_false, Bool.and_false, Bool.false_eq_true, if_false]
      ((repeat ((conv => lhs; whnf); simp only [go_sem, ↓reduceIte, Nat.reduceEqDiff, Nat.reduceBEq, Nat.reduceAdd, Nat.reduceMul, Nat.reduceSub, Nat.reduceLT, Nat.reduceLeDiff, reduceCtorEq, Int.reduceToNat, Int.reduceLE, Int.reduceLT, Int.reduceEq, sem_state_variable, h1, w1, x1, h2, Int.toNat_natCast, Name_o])); try (conv => lhs; whnf); try rfl)
  · have h1 : ¬ (0 : Int) < (s.size : Int) := by omega
    simp only [h0, decide_false, Bool.false_and, Bool.false_eq_true, if_false]
    ((repeat ((conv => lhs; whnf); simp only [go_sem, ↓reduceIte, Nat.reduceEqDiff, Nat.reduceBEq, Nat.reduceAdd, Nat.reduceMul, Nat.reduceSub, Nat.reduceLT, Nat.reduceLeDiff, reduceCtorEq, Int.reduceToNat, Int.reduceLE, Int.reduceLT, Int.reduceEq, sem_state_variable, h1, Name_o])); try (conv => lhs; whnf); try rfl)
noncomputable def fx_static_variable : FX := ⟨Tryz.f112, hints.of 112, []⟩
theorem ok_static_variable : fx_static_variable.ok 112 := ⟨by kernel_rfl, of_decide_eq_true (by kernel_rfl), by kernel_rfl, by kernel_rfl, by kernel_rfl, by kernel_rfl⟩
theorem sem_static_variable (b0 : Nat) (m : Md) (fs : List Fr) (e : Env) (S : Store) : sem b0 fx_static_variable m fs e S = run b0 fx_static_variable 1000 m fs e S := (sem_eq _ _ _ _ _ _).trans (run_sem b0 fx_static_variable ok_static_variable.good 1000 m fs e S).symm
theorem call_svariable (s : ByteArray) (hs : s.size ≤ maxLen) : callL Tryz.prog hints 112 [.str s] = some (.bool (varOK s)) := by
  refine FX.callL (r := (.bool (varOK s), [])) ok_static_variable 1000 rfl rfl ?_ rfl
  have hM := maxLen_le
  unfold varOK primed
  by_cases h0 : 0 < s.size
  · have h1 : (0 : Int) < (s.size : Int) := by omega
    have w1 : IntKind.i64.wrap ((s.size : Int) - 1) = ((s.size - 1 : Nat) : Int) := by rw [IntKind.wrap_i64]; omega
    have x1 : 0 ≤ ((s.size - 1 : Nat) : Int) ∧ ((s.size - 1 : Nat) : Int) < s.size := ⟨by omega, by omega⟩
    have sl := fun S => slice_str S s (s.size - 1) (by omega)
    by_cases h2 : byteAt s (s.size - 1) = 39
    · simp only [h0, h2, decide_true, Bool.and_self, if_true]
      ((repeat ((conv => lhs; whnf); simp only [go_sem, ↓reduceIte, Nat.reduceEqDiff, Nat.reduceBEq, Nat.reduceAdd, Nat.reduceMul, Nat.reduceSub, Nat.reduceLT, Nat.reduceLeDiff, reduceCtorEq, Int.reduceToNat, Int.reduceLE, Int.reduceLT, Int.reduceEq, sem_static_variable, h1, w1, x1, h2, sl, Int.toNat_natCast, Name_o])); try (conv => lhs; whnf); try rfl)
    · simp only [h0, h2, decide_true, decide_false, Bool.and_false, Bool.false_eq_true, if_false]
      ((repeat ((conv => lhs; whnf); simp only [go_sem, ↓reduceIte, Nat.reduceEqDiff, Nat.reduceBEq, Nat.reduceAdd, Nat.reduceMul, Nat.reduceSub, Nat.reduceLT, Nat.reduceLeDiff, reduceCtorEq, Int.reduceToNat, Int.reduceLE, Int.reduceLT, Int.reduceEq, sem_static_variable, h1, w1, x1, h2, Int.toNat_natCast, Name_o])); try (conv => lhs; whnf); try rfl)
  · have h1 : ¬ (0 : Int) < (s.size : Int) := by omega
    simp only [h0, decide_false, Bool.false_and, Bool.false_eq_true, if_false]
    ((repeat ((conv => lhs; whnf); simp only [go_sem, ↓reduceIte, Nat.reduceEqDiff, Nat.reduceBEq, Nat.reduceAdd, Nat.reduceMul, Nat.reduceSub, Nat.reduceLT, Nat.reduceLeDiff, reduceCtorEq, Int.reduceToNat, Int.reduceLE, Int.reduceLT, Int.reduceEq, sem_static_variable, h1, Name_o])); try (conv => lhs; whnf); try rfl)
noncomputable def fx_isochroneref10_Variable : FX := ⟨Tryz.f29, hints.of 29, []⟩
theorem ok_isochroneref10_Variable : fx_isochroneref10_Variable.ok 29 := ⟨by kernel_rfl, of_decide_eq_true (by kernel_rfl), by kernel_rfl, by kernel_rfl, by kernel_rfl, by kernel_rfl⟩
theorem sem_isochroneref10_Variable (b0 : Nat) (m : Md) (fs : List Fr) (e : Env) (S : Store) : sem b0 fx_isochroneref10_Variable m fs e S = run b0 fx_isochroneref10_Variable 1000 m fs e S := (sem_eq _ _ _ _ _ _).trans (run_sem b0 fx_isochroneref10_Variable ok_isochroneref10_Variable.good 1000 m fs e S).symm
theorem call_Variable (s : ByteArray) (hs : s.size ≤ maxLen) : callL Tryz.prog hints 29 [.str s] = some (.bool (varOK s)) := by
  refine FX.callL (r := (.bool (varOK s), [])) ok_isochroneref10_Variable 1000 rfl rfl ?_ rfl
  have hM := maxLen_le
  unfold varOK primed
  by_cases h0 : 0 < s.size
  · have h1 : (0 : Int) < (s.size : Int) := by omega
    have w1 : IntKind.i64.wrap ((s.size : Int) - 1) = ((s.size - 1 : Nat) : Int) := by rw [IntKind.wrap_i64]; omega
    have x1 : 0 ≤ ((s.size - 1 : Nat) : Int) ∧ ((s.size - 1 : Nat) : Int) < s.size := ⟨by omega, by omega⟩
    have sl := fun S => slice_str S s (s.size - 1) (by omega)
    by_cases h2 : byteAt s (s.size - 1) = 39
    · simp only [h0, h2, decide_true, Bool.and_self, if_true]
      ((repeat ((conv => lhs; whnf); simp only [go_sem, ↓reduceIte, Nat.reduceEqDiff, Nat.reduceBEq, Nat.reduceAdd, Nat.reduceMul, Nat.reduceSub, Nat.reduceLT, Nat.reduceLeDiff, reduceCtorEq, Int.reduceToNat, Int.reduceLE, Int.reduceLT, Int.reduceEq, sem_isochroneref10_Variable, h1, w1, x1, h2, sl, Int.toNat_natCast, Name8_o])); try (conv => lhs; whnf); try rfl)
    · simp only [h0, h2, decide_true, decide_false, Bool.and_false, Bool.false_eq_true, if_false]
      ((repeat ((conv => lhs; whnf); simp only [go_sem, ↓reduceIte, Nat.reduceEqDiff, Nat.reduceBEq, Nat.reduceAdd, Nat.reduceMul, Nat.reduceSub, Nat.reduceLT, Nat.reduceLeDiff, reduceCtorEq, Int.reduceToNat, Int.reduceLE, Int.reduceLT, Int.reduceEq, sem_isochroneref10_Variable, h1, w1, x1, h2, Int.toNat_natCast, Name8_o])); try (conv => lhs; whnf); try rfl)
  · have h1 : ¬ (0 : Int) < (s.size : Int) := by omega
    simp only [h0, decide_false, Bool.false_and, Bool.false_eq_true, if_false]
    ((repeat ((conv => lhs; whnf); simp only [go_sem, ↓reduceIte, Nat.reduceEqDiff, Nat.reduceBEq, Nat.reduceAdd, Nat.reduceMul, Nat.reduceSub, Nat.reduceLT, Nat.reduceLeDiff, reduceCtorEq, Int.reduceToNat, Int.reduceLE, Int.reduceLT, Int.reduceEq, sem_isochroneref10_Variable, h1, Name8_o])); try (conv => lhs; whnf); try rfl)
theorem var_o (S : Store) (s : ByteArray) (hs : s.size ≤ maxLen) : callO (callL Tryz.prog hints) S 58 [.str s] = some { v := .bool (varOK s) } := callO_plain (call_variable s hs) (by simp [Plain.str])
theorem svar_o (S : Store) (s : ByteArray) (hs : s.size ≤ maxLen) : callO (callL Tryz.prog hints) S 112 [.str s] = some { v := .bool (varOK s) } := callO_plain (call_svariable s hs) (by simp [Plain.str])
theorem Var_o (S : Store) (s : ByteArray) (hs : s.size ≤ maxLen) : callO (callL Tryz.prog hints) S 29 [.str s] = some { v := .bool (varOK s) } := callO_plain (call_Variable s hs) (by simp [Plain.str])
end
end Go.Vs
end
/- States: numbers that fit, Valid. -/
section
set_option linter.unusedVariables false
set_option linter.unusedSimpArgs false
set_option maxRecDepth 100000
namespace Go.Vs
open Go Go.Proofs
/-- A number as it lies in memory. -/
structure RV where
  neg : Bool
  num : List Int
  den : List Int
def RV.cells (v : RV) : List PV := [.bool v.neg, .sl (kRows .u32 v.num) false, .sl (kRows .u32 v.den) false]
structure RV.ok (v : RV) : Prop where
  n : OkD WB v.num
  d : OkD WB v.den
  ln : v.num.length ≤ maxLen
  ld : v.den.length ≤ maxLen
structure Bd where
  name : ByteArray
  val : RV
def Bd.cells (b : Bd) : List PV := [.str b.name, .bool b.val.neg, .sl (kRows .u32 b.val.num) false, .sl (kRows .u32 b.val.den) false]
structure Bd.ok (b : Bd) : Prop where
  s : b.name.size ≤ maxLen
  v : b.val.ok
def bd0 : Bd := ⟨⟨#[]⟩, ⟨false, [], []⟩⟩
def stRows (L : List Bd) : List (List PV) := L.map Bd.cells
@[go_sem] theorem stRows_length (L : List Bd) : (stRows L).length = L.length := nr (by simp [stRows])
@[go_sem] theorem stRows_ok (L : List Bd) : rowsOK 4 (stRows L) = true := nr (enc_ok (enc := Bd.cells) (fun _ => rfl) L)
theorem d_Bind : (tyi Tryz.prog 98).d = .struct [(0, 1, false), (1, 3, true)] := by kernel_rfl
@[go_sem] theorem size_Bind : (tyi Tryz.prog 98).size = 4 := nr (by kernel_rfl)
@[go_sem] theorem known_Bind : (tyi Tryz.prog 98).known = true := nr (by kernel_rfl)
@[go_sem] theorem zero_Bind : (tyi Tryz.prog 98).zero = some [.str ⟨#[]⟩, .bool false, .sl [] true, .sl [] true] := nr (by kernel_rfl)
@[go_sem] theorem alloc_Bind (n : Nat) : allocO (tyi Tryz.prog 98) n = some { v := .mp n 0 0, new := some ([[.str ⟨#[]⟩, .bool false, .sl [] true, .sl [] true]], none) } := nr (by unfold allocO; rw [zero_Bind]; rfl)
@[go_sem] theorem build_Bind (l : List (Nat × PV)) : buildO (tyi Tryz.prog 98) l = (fillV [(0, 1, false), (1, 3, true)] [.str ⟨#[]⟩, .bool false, .sl [] true, .sl [] true] l).map .agg := nr (by unfold buildO; rw [d_Bind, zero_Bind]; rfl)
theorem parts_Bind (row : List PV) : part (tyi Tryz.prog 98) row = if 4 ≤ row.length then some (.agg (row.take 4)) else none := by simp [part, known_Bind, TI.isAgg, d_Bind, size_Bind]
@[go_sem] theorem fm_Bind_0 (id i off : Nat) : evFieldAddr (tyi Tryz.prog 98) 0 (.mp id i off) = some (.mp id i (off + 0)) := by simp [evFieldAddr, d_Bind]
@[go_sem] theorem fk_Bind_0 (r : List PV) : evFieldAddr (tyi Tryz.prog 98) 0 (.cp r) = some (.cp (r.drop 0)) := by simp [evFieldAddr, d_Bind]
@[go_sem] theorem fv_Bind_0 (cs : List PV) : evField (tyi Tryz.prog 98) 0 (.agg cs) = cs[0]? := by simp [evField, d_Bind]
@[go_sem] theorem fm_Bind_1 (id i off : Nat) : evFieldAddr (tyi Tryz.prog 98) 1 (.mp id i off) = some (.mp id i (off + 1)) := by simp [evFieldAddr, d_Bind]
@[go_sem] theorem fk_Bind_1 (r : List PV) : evFieldAddr (tyi Tryz.prog 98) 1 (.cp r) = some (.cp (r.drop 1)) := by simp [evFieldAddr, d_Bind]
@[go_sem] theorem fv_Bind_1 (cs : List PV) : evField (tyi Tryz.prog 98) 1 (.agg cs) = if 1 + 3 ≤ cs.length then some (.agg ((cs.drop 1).take 3)) else none := by simp [evField, d_Bind]
theorem sl_st : SlT 35 98 4 72 := ⟨by kernel_rfl, by kernel_rfl, by kernel_rfl, by kernel_rfl, by kernel_rfl⟩
theorem sl_ss : SlT 45 9 1 16 := ⟨by kernel_rfl, by kernel_rfl, by kernel_rfl, by kernel_rfl, by kernel_rfl⟩
@[go_sem] theorem len_st (r : List (List PV)) (ex : Bool) : lenO (tyi Tryz.prog 35) (.sl r ex) = some (.int .i64 r.length) := nr (sl_st.len r ex)
@[go_sem] theorem lenm_st (i o l : Nat) (ex : Bool) : lenO (tyi Tryz.prog 35) (.msl i o l ex) = some (.int .i64 l) := nr (sl_st.lenm i o l ex)
@[go_sem] theorem len_ss (r : List (List PV)) (ex : Bool) : lenO (tyi Tryz.prog 45) (.sl r ex) = some (.int .i64 r.length) := nr (sl_ss.len r ex)
@[go_sem] theorem idx_st (S : Store) (L : List Bd) (ex : Bool) (i : Int) : indexAddrO Tryz.prog 35 S (.sl (stRows L) ex) (.int .i64 i) = if 0 ≤ i ∧ i < L.length then some (.cp (L.getD i.toNat bd0).cells) else none := nr (sl_st.idx (fun _ => rfl) bd0 S L ex i)
@[go_sem] theorem part_str (v : PV) (r : List PV) : part (tyi Tryz.prog 9) (v :: r) = some v := by
  have e : (tyi Tryz.prog 9).isAgg = false := by kernel_rfl
  simp [part, kn_str, e]
@[go_sem] theorem part_st (v : PV) (r : List PV) : part (tyi Tryz.prog 35) (v :: r) = some v := by
  have e : (tyi Tryz.prog 35).isAgg = false := by kernel_rfl
  have k : (tyi Tryz.prog 35).known = true := by kernel_rfl
  simp [part, k, e]
@[go_sem] theorem part_ss (v : PV) (r : List PV) : part (tyi Tryz.prog 45) (v :: r) = some v := by
  have e : (tyi Tryz.prog 45).isAgg = false := by kernel_rfl
  have k : (tyi Tryz.prog 45).known = true := by kernel_rfl
  simp [part, k, e]
@[go_sem] theorem size_st : (tyi Tryz.prog 35).size = 1 := nr (by kernel_rfl)
@[go_sem] theorem size_ss : (tyi Tryz.prog 45).size = 1 := nr (by kernel_rfl)
theorem d_Nms : (tyi Tryz.prog 47).d = .struct [(0, 1, false), (1, 1, false)] := by kernel_rfl
@[go_sem] theorem size_Nms : (tyi Tryz.prog 47).size = 2 := nr (by kernel_rfl)
@[go_sem] theorem known_Nms : (tyi Tryz.prog 47).known = true := nr (by kernel_rfl)
@[go_sem] theorem zero_Nms : (tyi Tryz.prog 47).zero = some [.bool false, .sl [] true] := nr (by kernel_rfl)
@[go_sem] theorem alloc_Nms (n : Nat) : allocO (tyi Tryz.prog 47) n = some { v := .mp n 0 0, new := some ([[.bool false, .sl [] true]], none) } := nr (by unfold allocO; rw [zero_Nms]; rfl)
@[go_sem] theorem build_Nms (l : List (Nat × PV)) : buildO (tyi Tryz.prog 47) l = (fillV [(0, 1, false), (1, 1, false)] [.bool false, .sl [] true] l).map .agg := nr (by unfold buildO; rw [d_Nms, zero_Nms]; rfl)
theorem parts_Nms (row : List PV) : part (tyi Tryz.prog 47) row = if 2 ≤ row.length then some (.agg (row.take 2)) else none := by simp [part, known_Nms, TI.isAgg, d_Nms, size_Nms]
@[go_sem] theorem fm_Nms_0 (id i off : Nat) : evFieldAddr (tyi Tryz.prog 47) 0 (.mp id i off) = some (.mp id i (off + 0)) := by simp [evFieldAddr, d_Nms]
@[go_sem] theorem fk_Nms_0 (r : List PV) : evFieldAddr (tyi Tryz.prog 47) 0 (.cp r) = some (.cp (r.drop 0)) := by simp [evFieldAddr, d_Nms]
@[go_sem] theorem fv_Nms_0 (cs : List PV) : evField (tyi Tryz.prog 47) 0 (.agg cs) = cs[0]? := by simp [evField, d_Nms]
@[go_sem] theorem fm_Nms_1 (id i off : Nat) : evFieldAddr (tyi Tryz.prog 47) 1 (.mp id i off) = some (.mp id i (off + 1)) := by simp [evFieldAddr, d_Nms]
@[go_sem] theorem fk_Nms_1 (r : List PV) : evFieldAddr (tyi Tryz.prog 47) 1 (.cp r) = some (.cp (r.drop 1)) := by simp [evFieldAddr, d_Nms]
@[go_sem] theorem fv_Nms_1 (cs : List PV) : evField (tyi Tryz.prog 47) 1 (.agg cs) = cs[1]? := by simp [evField, d_Nms]
@[go_sem] theorem part_Nms (a b : PV) (r : List PV) : part (tyi Tryz.prog 47) (a :: b :: r) = some (.agg [a, b]) := by simp [part, known_Nms, TI.isAgg, d_Nms, size_Nms]
@[go_sem] theorem part_Bind (a b c d : PV) (r : List PV) : part (tyi Tryz.prog 98) (a :: b :: c :: d :: r) = some (.agg [a, b, c, d]) := by simp [part, known_Bind, TI.isAgg, d_Bind, size_Bind]
/-- Valid, and of at most 400 words. -/
def RV.fit (v : RV) : Bool := decide (v.num.length ≤ 400) && decide (v.den.length ≤ 400) && validR v.neg v.num v.den 4096
section
attribute [local irreducible] Vs.callL Vs.callRL tyi callO callM callMV appendE storeE evLoad indexAddrO sliceO evFieldAddr evField buildO buildSliceO makeSliceO allocO boxed lenO copyE convertO indexO Vs.gc freezeAll
noncomputable def fx_state_fits : FX := ⟨Tryz.f61, hints.of 61, []⟩
theorem ok_state_fits : fx_state_fits.ok 61 := ⟨by kernel_rfl, of_decide_eq_true (by kernel_rfl), by kernel_rfl, by kernel_rfl, by kernel_rfl, by kernel_rfl⟩
theorem sem_state_fits (b0 : Nat) (m : Md) (fs : List Fr) (e : Env) (S : Store) : sem b0 fx_state_fits m fs e S = run b0 fx_state_fits 1000 m fs e S := (sem_eq _ _ _ _ _ _).trans (run_sem b0 fx_state_fits ok_state_fits.good 1000 m fs e S).symm
theorem call_fits (v : RV) (h : v.ok) : callL Tryz.prog hints 61 [.agg v.cells, .int .i64 400] = some (.bool v.fit) := by
  have hM := maxLen_le
  have h1 := h.ln
  have h2 := h.ld
  have cv := fun S => callO_plain (S := S) (call_rat_Valid v.neg v.num v.den h.n h.d (by omega) (by omega)) (by simp; exact ratL_plain _ _ _)
  unfold ratL at cv
  refine FX.callL (r := (.bool v.fit, [.arr [[.bool v.neg, .sl (kRows .u32 v.num) false, .sl (kRows .u32 v.den) false]] none false])) ok_state_fits 1000 rfl rfl ?_ rfl
  unfold RV.fit RV.cells
  by_cases c1 : v.num.length ≤ 400
  · have c1' : (v.num.length : Int) ≤ 400 := by omega
    by_cases c2 : v.den.length ≤ 400
    · have c2' : (v.den.length : Int) ≤ 400 := by omega
      simp only [c1, c2, decide_true, Bool.true_and]
      ((repeat ((conv => lhs; whnf); simp only [go_sem, ↓reduceIte, Nat.reduceEqDiff, Nat.reduceBEq, Nat.reduceAdd, Nat.reduceMul, Nat.reduceSub, Nat.reduceLT, Nat.reduceLeDiff, reduceCtorEq, Int.reduceToNat, Int.reduceLE, Int.reduceLT, Int.reduceEq, sem_state_fits, c1', c2', cv])); try (conv => lhs; whnf); try rfl)
    · have c2' : ¬ (v.den.length : Int) ≤ 400 := by omega
      simp only [c1, c2, decide_true, decide_false, Bool.true_and, Bool.false_and]
      ((repeat ((conv => lhs; whnf); simp only [go_sem, ↓reduceIte, Nat.reduceEqDiff, Nat.reduceBEq, Nat.reduceAdd, Nat.reduceMul, Nat.reduceSub, Nat.reduceLT, Nat.reduceLeDiff, reduceCtorEq, Int.reduceToNat, Int.reduceLE, Int.reduceLT, Int.reduceEq, sem_state_fits, c1', c2', cv])); try (conv => lhs; whnf); try rfl)
  · have c1' : ¬ (v.num.length : Int) ≤ 400 := by omega
    simp only [c1, decide_false, Bool.false_and]
    ((repeat ((conv => lhs; whnf); simp only [go_sem, ↓reduceIte, Nat.reduceEqDiff, Nat.reduceBEq, Nat.reduceAdd, Nat.reduceMul, Nat.reduceSub, Nat.reduceLT, Nat.reduceLeDiff, reduceCtorEq, Int.reduceToNat, Int.reduceLE, Int.reduceLT, Int.reduceEq, sem_state_fits, c1'])); try (conv => lhs; whnf); try rfl)
noncomputable def fx_isochroneref11_small : FX := ⟨Tryz.f64, hints.of 64, []⟩
theorem ok_isochroneref11_small : fx_isochroneref11_small.ok 64 := ⟨by kernel_rfl, of_decide_eq_true (by kernel_rfl), by kernel_rfl, by kernel_rfl, by kernel_rfl, by kernel_rfl⟩
theorem sem_isochroneref11_small (b0 : Nat) (m : Md) (fs : List Fr) (e : Env) (S : Store) : sem b0 fx_isochroneref11_small m fs e S = run b0 fx_isochroneref11_small 1000 m fs e S := (sem_eq _ _ _ _ _ _).trans (run_sem b0 fx_isochroneref11_small ok_isochroneref11_small.good 1000 m fs e S).symm
theorem call_small11 (v : RV) (h : v.ok) : callL Tryz.prog hints 64 [.agg v.cells, .int .i64 400] = some (.bool v.fit) := by
  have hM := maxLen_le
  have h1 := h.ln
  have h2 := h.ld
  have cv := fun S => callO_plain (S := S) (call_rr_Valid v.neg v.num v.den h.n h.d (by omega) (by omega)) (by simp; exact ratL_plain _ _ _)
  unfold ratL at cv
  refine FX.callL (r := (.bool v.fit, [.arr [[.bool v.neg, .sl (kRows .u32 v.num) false, .sl (kRows .u32 v.den) false]] none false])) ok_isochroneref11_small 1000 rfl rfl ?_ rfl
  unfold RV.fit RV.cells
  cases cb : validR v.neg v.num v.den 4096
  · rw [cb] at cv
    simp only [Bool.and_false]
    ((repeat ((conv => lhs; whnf); simp only [go_sem, ↓reduceIte, Nat.reduceEqDiff, Nat.reduceBEq, Nat.reduceAdd, Nat.reduceMul, Nat.reduceSub, Nat.reduceLT, Nat.reduceLeDiff, reduceCtorEq, Int.reduceToNat, Int.reduceLE, Int.reduceLT, Int.reduceEq, sem_isochroneref11_small, cv])); try (conv => lhs; whnf); try rfl)
  · rw [cb] at cv
    by_cases c1 : v.num.length ≤ 400
    · have c1' : (v.num.length : Int) ≤ 400 := by omega
      by_cases c2 : v.den.length ≤ 400
      · have c2' : (v.den.length : Int) ≤ 400 := by omega
        simp only [c1, c2, decide_true, Bool.true_and]
        ((repeat ((conv => lhs; whnf); simp only [go_sem, ↓reduceIte, Nat.reduceEqDiff, Nat.reduceBEq, Nat.reduceAdd, Nat.reduceMul, Nat.reduceSub, Nat.reduceLT, Nat.reduceLeDiff, reduceCtorEq, Int.reduceToNat, Int.reduceLE, Int.reduceLT, Int.reduceEq, sem_isochroneref11_small, c1', c2', cv])); try (conv => lhs; whnf); try rfl)
      · have c2' : ¬ (v.den.length : Int) ≤ 400 := by omega
        simp only [c1, c2, decide_true, decide_false, Bool.true_and, Bool.false_and]
        ((repeat ((conv => lhs; whnf); simp only [go_sem, ↓reduceIte, Nat.reduceEqDiff, Nat.reduceBEq, Nat.reduceAdd, Nat.reduceMul, Nat.reduceSub, Nat.reduceLT, Nat.reduceLeDiff, reduceCtorEq, Int.reduceToNat, Int.reduceLE, Int.reduceLT, Int.reduceEq, sem_isochroneref11_small, c1', c2', cv])); try (conv => lhs; whnf); try rfl)
    · have c1' : ¬ (v.num.length : Int) ≤ 400 := by omega
      simp only [c1, decide_false, Bool.false_and]
      ((repeat ((conv => lhs; whnf); simp only [go_sem, ↓reduceIte, Nat.reduceEqDiff, Nat.reduceBEq, Nat.reduceAdd, Nat.reduceMul, Nat.reduceSub, Nat.reduceLT, Nat.reduceLeDiff, reduceCtorEq, Int.reduceToNat, Int.reduceLE, Int.reduceLT, Int.reduceEq, sem_isochroneref11_small, c1', cv])); try (conv => lhs; whnf); try rfl)
theorem rv_plain (v : RV) : Plain (.agg v.cells) := ratL_plain _ _ _
theorem fits_o (S : Store) (v : RV) (h : v.ok) : callO (callL Tryz.prog hints) S 61 [.agg v.cells, .int .i64 400] = some { v := .bool v.fit } := callO_plain (call_fits v h) (by simp [Plain.int]; exact rv_plain v)
theorem small11_o (S : Store) (v : RV) (h : v.ok) : callO (callL Tryz.prog hints) S 64 [.agg v.cells, .int .i64 400] = some { v := .bool v.fit } := callO_plain (call_small11 v h) (by simp [Plain.int]; exact rv_plain v)
end
end Go.Vs
end
/- States: Valid, the program's and the reference's. -/
section
set_option linter.unusedVariables false
set_option linter.unusedSimpArgs false
set_option maxRecDepth 100000
namespace Go.Vs
open Go Go.Proofs
/-- The binding at place i is in order. -/
def bdOK (L : List Bd) (i : Nat) : Bool :=
  varOK (L.getD i bd0).name && (decide (i = 0) || Op.bytesLess (L.getD (i - 1) bd0).name.toList (L.getD i bd0).name.toList) && decide ((L.getD i bd0).val.num.length ≠ 0) && (L.getD i bd0).val.fit
def bdsOK (L : List Bd) : Nat → Nat → Bool
  | 0, _ => true
  | m + 1, i => bdOK L i && bdsOK L m (i + 1)
def stOK (L : List Bd) : Bool := decide (L.length ≤ 40) && bdsOK L L.length 0
def StOk (L : List Bd) : Prop := ∀ b ∈ L, b.ok
theorem StOk.at {L : List Bd} (h : StOk L) {i : Nat} (hi : i < L.length) : (L.getD i bd0).ok := by
  rw [List.getD_eq_getElem?_getD, List.getElem?_eq_getElem hi]
  exact h _ (List.getElem_mem hi)
section
attribute [local irreducible] Vs.callL Vs.callRL tyi callO callM callMV appendE storeE evLoad indexAddrO sliceO evFieldAddr evField buildO buildSliceO makeSliceO allocO boxed lenO copyE convertO indexO Vs.gc freezeAll
noncomputable def fx_state_Valid : FX := ⟨Tryz.f24, hints.of 24, []⟩
theorem ok_state_Valid : fx_state_Valid.ok 24 := ⟨by kernel_rfl, of_decide_eq_true (by kernel_rfl), by kernel_rfl, by kernel_rfl, by kernel_rfl, by kernel_rfl⟩
theorem sem_state_Valid (b0 : Nat) (m : Md) (fs : List Fr) (e : Env) (S : Store) : sem b0 fx_state_Valid m fs e S = run b0 fx_state_Valid 1000 m fs e S := (sem_eq _ _ _ _ _ _).trans (run_sem b0 fx_state_Valid ok_state_Valid.good 1000 m fs e S).symm
theorem loop_Valid (L : List Bd) (hL : StOk L) (hl : L.length ≤ 40) : ∀ (m i : Nat), i + m = L.length → ∃ S', loopAt 0 fx_state_Valid 0 116 0 [.blk 0, .seq 0 15] [(0, .sl (stRows L) false), (8, .sl (stRows L) false), (9, .int .i64 L.length), (10, .int .i64 i)] [] = some (.bool (bdsOK L m i), S') := by
  intro m
  induction m with
  | zero =>
    intro i hi
    have h1 : ¬ (i : Int) < (L.length : Int) := by omega
    apply Exists.intro
    refine loopAt_step ok_state_Valid.good 1000 ?_
    simp only [bdsOK]
    ((repeat ((conv => lhs; whnf); simp only [go_sem, ↓reduceIte, Nat.reduceEqDiff, Nat.reduceBEq, Nat.reduceAdd, Nat.reduceMul, Nat.reduceSub, Nat.reduceLT, Nat.reduceLeDiff, reduceCtorEq, Int.reduceToNat, Int.reduceLE, Int.reduceLT, Int.reduceEq, sem_state_Valid, h1])); try (conv => lhs; whnf); try rfl)
    refine exit_run ok_state_Valid.good 1000 ?_
    ((repeat ((conv => lhs; whnf); simp only [go_sem, ↓reduceIte, Nat.reduceEqDiff, Nat.reduceBEq, Nat.reduceAdd, Nat.reduceMul, Nat.reduceSub, Nat.reduceLT, Nat.reduceLeDiff, reduceCtorEq, Int.reduceToNat, Int.reduceLE, Int.reduceLT, Int.reduceEq, sem_state_Valid])); try (conv => lhs; whnf); try rfl)
  | succ m ih =>
    intro i hi
    have h1 : (i : Int) < (L.length : Int) := by omega
    have h2 := wrap_succ (i := i) (n := L.length) (by omega) (by unfold maxLen; omega)
    have x1 : 0 ≤ (i : Int) ∧ (i : Int) < (L.length : Int) := ⟨by omega, h1⟩
    obtain ⟨S', key⟩ := ih (i + 1) (by omega)
    have hb := hL.at (i := i) (by omega)
    have hp := hL.at (i := i - 1) (by omega)
    simp only [bdsOK, bdOK]
    generalize hB : L.getD i bd0 = B at hb ⊢
    generalize hP : L.getD (i - 1) bd0 = Q at hp ⊢
    obtain ⟨nm, v⟩ := B
    have cv := fun S => var_o S nm hb.s
    have cf := fun S => fits_o S v hb.v
    unfold RV.cells at cf
    cases k1 : varOK nm
    · rw [k1] at cv
      simp only [Bool.false_and]
      apply Exists.intro; refine loopAt_step ok_state_Valid.good 1000 ?_
      ((repeat ((conv => lhs; whnf); simp only [go_sem, ↓reduceIte, Nat.reduceEqDiff, Nat.reduceBEq, Nat.reduceAdd, Nat.reduceMul, Nat.reduceSub, Nat.reduceLT, Nat.reduceLeDiff, reduceCtorEq, Int.reduceToNat, Int.reduceLE, Int.reduceLT, Int.reduceEq, sem_state_Valid, h1, x1, Int.toNat_natCast, hB, Bd.cells, cv])); try (conv => lhs; whnf); try rfl)
    · rw [k1] at cv
      simp only [Bool.true_and]
      by_cases c0 : i = 0
      · have c0' : ¬ (0 : Int) < (i : Int) := by omega
        simp only [c0, decide_true, Bool.true_or, Bool.true_and]
        simp only [c0, Int.natCast_zero] at *
        by_cases c1 : v.num.length = 0
        · have c1' : (v.num.length : Int) = 0 := by omega
          simp only [c1, ne_eq, not_true, decide_false, Bool.false_and]
          apply Exists.intro; refine loopAt_step ok_state_Valid.good 1000 ?_
          ((repeat ((conv => lhs; whnf); simp only [go_sem, ↓reduceIte, Nat.reduceEqDiff, Nat.reduceBEq, Nat.reduceAdd, Nat.reduceMul, Nat.reduceSub, Nat.reduceLT, Nat.reduceLeDiff, reduceCtorEq, Int.reduceToNat, Int.reduceLE, Int.reduceLT, Int.reduceEq, sem_state_Valid, h1, x1, Int.toNat_zero, hB, Bd.cells, cv, c0', c1'])); try (conv => lhs; whnf); try rfl)
        · have c1' : ¬ (v.num.length : Int) = 0 := by omega
          simp only [c1, ne_eq, not_false_eq_true, decide_true, Bool.true_and]
          cases k2 : v.fit
          · rw [k2] at cf
            simp only [Bool.false_and]
            apply Exists.intro; refine loopAt_step ok_state_Valid.good 1000 ?_
            ((repeat ((conv => lhs; whnf); simp only [go_sem, ↓reduceIte, Nat.reduceEqDiff, Nat.reduceBEq, Nat.reduceAdd, Nat.reduceMul, Nat.reduceSub, Nat.reduceLT, Nat.reduceLeDiff, reduceCtorEq, Int.reduceToNat, Int.reduceLE, Int.reduceLT, Int.reduceEq, sem_state_Valid, h1, x1, Int.toNat_zero, hB, Bd.cells, cv, c0', c1', cf])); try (conv => lhs; whnf); try rfl)
          · rw [k2] at cf
            simp only [Bool.true_and]
            apply Exists.intro; refine loopAt_step ok_state_Valid.good 1000 ?_
            ((repeat ((conv => lhs; whnf); simp only [go_sem, ↓reduceIte, Nat.reduceEqDiff, Nat.reduceBEq, Nat.reduceAdd, Nat.reduceMul, Nat.reduceSub, Nat.reduceLT, Nat.reduceLeDiff, reduceCtorEq, Int.reduceToNat, Int.reduceLE, Int.reduceLT, Int.reduceEq, sem_state_Valid, h1, x1, Int.toNat_zero, hB, Bd.cells, cv, c0', c1', cf, h2])); try (conv => lhs; whnf); try rfl)
            exact key
      · have c0' : (0 : Int) < (i : Int) := by omega
        have w1 : IntKind.i64.wrap ((i : Int) - 1) = ((i - 1 : Nat) : Int) := by rw [IntKind.wrap_i64]; omega
        have x2 : 0 ≤ ((i - 1 : Nat) : Int) ∧ ((i - 1 : Nat) : Int) < (L.length : Int) := ⟨by omega, by omega⟩
        simp only [c0, decide_false, Bool.false_or]
        cases k3 : Op.bytesLess Q.name.toList nm.toList
        · simp only [Bool.false_and]
          apply Exists.intro; refine loopAt_step ok_state_Valid.good 1000 ?_
          ((repeat ((conv => lhs; whnf); simp only [go_sem, ↓reduceIte, Nat.reduceEqDiff, Nat.reduceBEq, Nat.reduceAdd, Nat.reduceMul, Nat.reduceSub, Nat.reduceLT, Nat.reduceLeDiff, reduceCtorEq, Int.reduceToNat, Int.reduceLE, Int.reduceLT, Int.reduceEq, sem_state_Valid, h1, x1, Int.toNat_natCast, hB, hP, Bd.cells, cv, c0', w1, x2, k3])); try (conv => lhs; whnf); try rfl)
        · simp only [Bool.true_and]
          by_cases c1 : v.num.length = 0
          · have c1' : (v.num.length : Int) = 0 := by omega
            simp only [c1, ne_eq, not_true, decide_false, Bool.false_and]
            apply Exists.intro; refine loopAt_step ok_state_Valid.good 1000 ?_
            ((repeat ((conv => lhs; whnf); simp only [go_sem, ↓reduceIte, Nat.reduceEqDiff, Nat.reduceBEq, Nat.reduceAdd, Nat.reduceMul, Nat.reduceSub, Nat.reduceLT, Nat.reduceLeDiff, reduceCtorEq, Int.reduceToNat, Int.reduceLE, Int.reduceLT, Int.reduceEq, sem_state_Valid, h1, x1, Int.toNat_natCast, hB, hP, Bd.cells, cv, c0', w1, x2, k3, c1'])); try (conv => lhs; whnf); try rfl)
          · have c1' : ¬ (v.num.length : Int) = 0 := by omega
            simp only [c1, ne_eq, not_false_eq_true, decide_true, Bool.true_and]
            cases k2 : v.fit
            · rw [k2] at cf
              simp only [Bool.false_and]
              apply Exists.intro; refine loopAt_step ok_state_Valid.good 1000 ?_
              ((repeat ((conv => lhs; whnf); simp only [go_sem, ↓reduceIte, Nat.reduceEqDiff, Nat.reduceBEq, Nat.reduceAdd, Nat.reduceMul, Nat.reduceSub, Nat.reduceLT, Nat.reduceLeDiff, reduceCtorEq, Int.reduceToNat, Int.reduceLE, Int.reduceLT, Int.reduceEq, sem_state_Valid, h1, x1, Int.toNat_natCast, hB, hP, Bd.cells, cv, c0', w1, x2, k3, c1', cf])); try (conv => lhs; whnf); try rfl)
            · rw [k2] at cf
              simp only [Bool.true_and]
              apply Exists.intro; refine loopAt_step ok_state_Valid.good 1000 ?_
              ((repeat ((conv => lhs; whnf); simp only [go_sem, ↓reduceIte, Nat.reduceEqDiff, Nat.reduceBEq, Nat.reduceAdd, Nat.reduceMul, Nat.reduceSub, Nat.reduceLT, Nat.reduceLeDiff, reduceCtorEq, Int.reduceToNat, Int.reduceLE, Int.reduceLT, Int.reduceEq, sem_state_Valid, h1, x1, Int.toNat_natCast, hB, hP, Bd.cells, cv, c0', w1, x2, k3, c1', cf, h2])); try (conv => lhs; whnf); try rfl)
              exact key
theorem call_stValid (L : List Bd) (hL : StOk L) (hl : L.length ≤ maxLen) : callL Tryz.prog hints 24 [.sl (stRows L) false] = some (.bool (stOK L)) := by
  unfold stOK
  by_cases h : L.length ≤ 40
  · have h' : ¬ (40 : Int) < (L.length : Int) := by omega
    obtain ⟨S', key⟩ := loop_Valid L hL h L.length 0 (by omega)
    simp only [h, decide_true, Bool.true_and]
    refine FX.callL (r := (.bool (bdsOK L L.length 0), S')) ok_state_Valid 1000 rfl rfl ?_ rfl
    ((repeat ((conv => lhs; whnf); simp only [go_sem, ↓reduceIte, Nat.reduceEqDiff, Nat.reduceBEq, Nat.reduceAdd, Nat.reduceMul, Nat.reduceSub, Nat.reduceLT, Nat.reduceLeDiff, reduceCtorEq, Int.reduceToNat, Int.reduceLE, Int.reduceLT, Int.reduceEq, sem_state_Valid, h'])); try (conv => lhs; whnf); try rfl)
    exact key
  · have h' : (40 : Int) < (L.length : Int) := by omega
    simp only [h, decide_false, Bool.false_and]
    refine FX.callL (r := (.bool false, [])) ok_state_Valid 1000 rfl rfl ?_ rfl
    ((repeat ((conv => lhs; whnf); simp only [go_sem, ↓reduceIte, Nat.reduceEqDiff, Nat.reduceBEq, Nat.reduceAdd, Nat.reduceMul, Nat.reduceSub, Nat.reduceLT, Nat.reduceLeDiff, reduceCtorEq, Int.reduceToNat, Int.reduceLE, Int.reduceLT, Int.reduceEq, sem_state_Valid, h'])); try (conv => lhs; whnf); try rfl)
end
end Go.Vs
end
